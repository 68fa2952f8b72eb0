/- What the law AlignDoes stands on: the framework, the given functions as plain functions, their walks, and the plain laws; part 5. -/
import Derived.Test.YtmnbomkkobifbaaAlignDoesZ4
set_option linter.unusedSimpArgs false
set_option linter.unusedVariables false
namespace Go.Abs
open Go Go.RowKit Go.Proofs
theorem VM (eG : (List Int)) (dM : (List Int)) (r : ((List aD) × Int)) (h0 : xL eG dM = some r) : cE Try.prog 90 [(eL (eI) eG), (eL (eI) dM)] (.tup [(eL aE r.1), (eI r.2)]) := by
  intro H0
  refine cF Try.func90 ?_
  have hO := aL.start H0
  unfold xL at h0
  refine aU aF 2 [] [] ?_
  refine aN ?_
  refine aV aF 2 ?_
  refine kM [] 2 ?_
  refine bH ?_
  refine bS [] [(6, (.sl true 0 (fun _ => .bad)))] ?_
  refine aU aF 1 [] [(7, (eI (0 : Int)))] ?_
  refine cK (fun T H => ∃ f6 : List aD, ∃ lo1 : Nat, Has T [(6, (.msl 2 lo1 0 (List.length f6)))] ∧ aL ⟨H0, [], []⟩ H [(lo1, 2, List.map aE f6)] ∧ vV f6 = some r) ?_ ?_
  · clear hO h0
    rintro T H ⟨f6, lo1, hT, hO, h0⟩
    refine bC hT ?_
    clear hT
    unfold vV at h0
    refine aN ?_
    refine aN ?_
    refine aV aF 3 ?_
    refine uI (e := aE) f6 0 6 2 lo1 (List.length f6) [] (by kernel_rfl) hO (by kernel_rfl) (by kernel_rfl) (by kernel_rfl) (by kernel_rfl) ?_
    intro H hO
    refine bP 1 ?_
    obtain ⟨x2, hx3, h0⟩ := bB h0
    refine dB (ME f6 _ hx3) hO ?_
    intro H hO
    refine bH ?_
    refine bL [(6, (eL aE f6)), (42, (aK (!x2)))] ?_
    refine bK h0 (fun h0 => ?_) (fun h0 => ?_)
    · refine bV aF 2 [(4, (.sl true 0 (fun _ => .bad))), (5, (eI (7 : Int)))] ?_
      refine bM ?_
      refine cV (l := [(4, (eL aE ([]))), (5, (eI (7 : Int)))]) ⟨[(4, (.sl true 0 (fun _ => .bad))), (5, (eI (7 : Int)))], by kernel_rfl, rfl, ⟨iY, bA.refl _, trivial⟩⟩ ?_
      obtain rfl := oI h0
      exact aH (aP (Q_r hO))
    refine bO ?_
    refine bL [(6, (eL aE f6))] ?_
    refine bV aF 3 [(4, (eL aE f6)), (5, (eI (0 : Int)))] ?_
    refine bM ?_
    obtain rfl := oI h0
    exact aH (Q_r hO)
  refine aU aF 1 [] [(8, (eI (0 : Int)))] ?_
  refine bT 0 ?_
  refine cS [(0, (eL (eI) eG)), (1, (eL (eI) dM)), (6, (.sl true 0 (fun _ => .bad))), (7, (eI (0 : Int))), (8, (eI (0 : Int)))] ?_
  refine vJ (el := (fun _ => .bad)) 2 6 2 hO (by kernel_rfl) ?_
  intro lo17 H18 hO
  refine cG (fun T H => ∃ f6 : List aD, ∃ was7 : Int, ∃ i8 : Int, ∃ lo7 : Nat, Has T [(0, (eL (eI) eG)), (1, (eL (eI) dM)), (6, (.msl 2 lo7 0 (List.length f6))), (7, (eI was7)), (8, (eI i8))] ∧ aL ⟨H0, [], []⟩ H [(lo7, 2, List.map aE f6)] ∧ zL eG dM f6 was7 i8 = some r) ?_ ⟨([] : List aD), (0 : Int), (0 : Int), lo17, aW, hO, h0⟩
  clear hO h0
  rintro T H ⟨f6, was7, i8, lo7, hT, hO, h0⟩
  refine bC hT ?_
  clear hT
  unfold zL at h0
  obtain ⟨rr0, hl0, h0⟩ := bB h0
  refine cZ (fun (s : List aD × Int × Int) T H => ∃ lo7 : Nat, Has T [(0, (eL (eI) eG)), (1, (eL (eI) dM)), (6, (.msl 2 lo7 0 (List.length s.1))), (7, (eI s.2.1)), (8, (eI s.2.2))] ∧ aL ⟨H0, [], []⟩ H [(lo7, 2, List.map aE s.1)]) hl0 ⟨lo7, aW, hO⟩ ?_
  clear hO
  rintro k0 s out1 T H ⟨lo7, hT, hO⟩ h1 ho0
  obtain ⟨f6, was7, i8⟩ := s
  replace h1 : oL eG dM f6 was7 i8 = some out1 := h1
  try dsimp only at hT
  refine bC hT ?_
  clear hT
  unfold oL at h1
  refine aN ?_
  refine aU aF 4 [] [(13, (aK (decide (i8 < (lN eG)))))] ?_
  refine bK h1 (fun h1 => ?_) (fun h1 => ?_)
  · refine bO ?_
    refine bL [(0, (eL (eI) eG)), (1, (eL (eI) dM)), (6, (.msl 2 lo7 0 (List.length f6))), (7, (eI was7)), (8, (eI i8))] ?_
    refine aN ?_
    refine bT 1 ?_
    refine cK (fun T H => ∃ f6 : List aD, ∃ lo9 : Nat, Has T [(0, (eL (eI) eG)), (1, (eL (eI) dM)), (6, (.msl 2 lo9 0 (List.length f6))), (8, (eI i8))] ∧ aL ⟨H0, [], []⟩ H [(lo9, 2, List.map aE f6)] ∧ vE eG dM f6 i8 = some out1) ?_ ?_
    · clear hO h1
      rintro T H ⟨f6, lo9, hT, hO, h1⟩
      refine bC hT ?_
      clear hT
      unfold vE at h1
      refine aV aF 5 ?_
      obtain ⟨c10, h1⟩ := bG h1
      refine oH [0 ≤ i8 ∧ i8 < (lN dM)] ⟨c10, trivial⟩ ?_
      refine cO [(0, (eL (eI) eG)), (1, (eL (eI) dM)), (6, (.msl 2 lo9 0 (List.length f6))), (7, (eI (gD dM i8))), (8, (eI i8))] ?_
      refine aH (aX (aG (?_)))
      refine aV aF 3 ?_
      refine bH ?_
      exact aH (aG (⟨rfl, _, (oI h1).symm, _, aW, hO⟩))
    refine aN ?_
    refine aV aF 6 ?_
    obtain ⟨c11, h1⟩ := bG h1
    refine oH [0 ≤ i8 ∧ i8 < (lN dM)] ⟨c11, trivial⟩ ?_
    refine bS [] [(21, (aK (!decide ((gD dM i8) = was7))))] ?_
    refine bK h1 (fun h1 => ?_) (fun h1 => ?_)
    · refine fB (fC [26, 30, 34]) aF 15 ?_
      obtain ⟨c13, h1⟩ := bG h1
      obtain ⟨c14, h1⟩ := bG h1
      refine cW 12 [0 ≤ i8 ∧ i8 < (lN eG), 0 ≤ i8 ∧ i8 < (lN dM)] ⟨c13, c14, trivial⟩ ?_
      refine HE (xs := [(aE (aD.mk (gD eG i8) (wR ((gD dM i8) - was7))))]) (k := 2) (by kernel_rfl) (by kernel_rfl) ?_
      obtain ⟨c16, h1⟩ := bG h1
      refine GR (e := aE) f6 ([aD.mk (gD eG i8) (wR ((gD dM i8) - was7))]) 0 lo7 2 16 (dA [(aE (aD.mk (gD eG i8) (wR ((gD dM i8) - was7))))]) (fun lo15 => [(lo15, 2, List.map aE (f6 ++ ([aD.mk (gD eG i8) (wR ((gD dM i8) - was7))])))]) (by kernel_rfl) (by kernel_rfl) hO (by kernel_rfl) (by kernel_rfl) c16 (fun _ => by kernel_rfl) ?_
      intro lo15 H hO
      refine jB ?_
      exact aH (aG (⟨rfl, _, _, aW, hO, h1⟩))
    refine bO ?_
    exact aH (aG (⟨rfl, _, _, aW, hO, h1⟩))
  refine cX 0 ?_
  obtain rfl := oI h1
  obtain rfl : _ = rr0 := ho0
  replace h0 : vV f6 = some r := h0
  exact aH (aS (aS (bQ (aG (⟨rfl, _, _, aW, hO, h0⟩)))))

theorem TC (l0 : (List aD)) (r : ((List aD) × Int)) (h0 : xF l0 = some r) : cE Try.prog 76 [(eL aE l0)] (.tup [(eL aE r.1), (eI r.2)]) := by
  intro H0
  refine cF Try.func76 ?_
  have hO := aL.start H0
  unfold xF at h0
  refine aU aF 2 [] [] ?_
  refine cK (fun T H => Has T [(0, (eL aE l0))] ∧ aL ⟨H0, [], []⟩ H [] ∧ vF l0 = some r) ?_ ?_
  · clear hO h0
    rintro T H ⟨hT, hO, h0⟩
    refine bC hT ?_
    clear hT
    unfold vF at h0
    refine aN ?_
    refine aV aF 2 ?_
    refine kM [] 1 ?_
    refine bH ?_
    refine bS [] [(5, (.sl true 0 (fun _ => .bad)))] ?_
    refine cK (fun T H => ∃ cL : (List Int), Has T [(0, (eL aE l0)), (5, (eL (eI) cL))] ∧ aL ⟨H0, [], []⟩ H [] ∧ vK l0 cL = some r) ?_ ?_
    · clear hO h0
      rintro T H ⟨cL, hT, hO, h0⟩
      refine bC hT ?_
      clear hT
      unfold vK at h0
      refine aN ?_
      refine aV aF 2 ?_
      refine kM [] 1 ?_
      refine bH ?_
      refine bS [] [(7, (.sl true 0 (fun _ => .bad)))] ?_
      refine cK (fun T H => ∃ eZ : List Int, ∃ lo1 : Nat, Has T [(5, (eL (eI) cL)), (7, (.msl 1 lo1 0 (List.length eZ)))] ∧ aL ⟨H0, [], []⟩ H [(lo1, 1, List.map (eI) eZ)] ∧ uY cL eZ = some r) ?_ ?_
      · clear hO h0
        rintro T H ⟨eZ, lo1, hT, hO, h0⟩
        refine bC hT ?_
        clear hT
        unfold uY at h0
        refine aN ?_
        refine aV aF 7 ?_
        refine uI (e := (eI)) eZ 0 7 1 lo1 (List.length eZ) [] (by kernel_rfl) hO (by kernel_rfl) (by kernel_rfl) (by kernel_rfl) (by kernel_rfl) ?_
        intro H hO
        refine bP 2 ?_
        obtain ⟨x2, hx3, h0⟩ := bB h0
        refine dB (VM cL eZ _ hx3) hO ?_
        intro H hO
        refine bH ?_
        refine bL [(2, (eL aE x2.1)), (3, (eI x2.2))] ?_
        refine bM ?_
        obtain rfl := oI h0
        exact aH (Q_r hO)
      refine aU aF 1 [] [(8, (eI (0 : Int)))] ?_
      refine bT 4 ?_
      refine cS [(0, (eL aE l0)), (5, (eL (eI) cL)), (7, (.sl true 0 (fun _ => .bad))), (8, (eI (0 : Int)))] ?_
      refine vJ (el := (fun _ => .bad)) 2 7 1 hO (by kernel_rfl) ?_
      intro lo14 H15 hO
      refine cG (fun T H => ∃ eZ : List Int, ∃ i8 : Int, ∃ lo6 : Nat, Has T [(0, (eL aE l0)), (5, (eL (eI) cL)), (7, (.msl 1 lo6 0 (List.length eZ))), (8, (eI i8))] ∧ aL ⟨H0, [], []⟩ H [(lo6, 1, List.map (eI) eZ)] ∧ zM l0 cL eZ i8 = some r) ?_ ⟨([] : List Int), (0 : Int), lo14, aW, hO, h0⟩
      clear hO h0
      rintro T H ⟨eZ, i8, lo6, hT, hO, h0⟩
      refine bC hT ?_
      clear hT
      unfold zM at h0
      obtain ⟨rr0, hl0, h0⟩ := bB h0
      refine cZ (fun (s : List Int × Int) T H => ∃ lo6 : Nat, Has T [(0, (eL aE l0)), (5, (eL (eI) cL)), (7, (.msl 1 lo6 0 (List.length s.1))), (8, (eI s.2))] ∧ aL ⟨H0, [], []⟩ H [(lo6, 1, List.map (eI) s.1)]) hl0 ⟨lo6, aW, hO⟩ ?_
      clear hO
      rintro k0 s out1 T H ⟨lo6, hT, hO⟩ h1 ho0
      obtain ⟨eZ, i8⟩ := s
      replace h1 : oT l0 cL eZ i8 = some out1 := h1
      try dsimp only at hT
      refine bC hT ?_
      clear hT
      unfold oT at h1
      refine aN ?_
      refine aU aF 4 [] [(67, (aK (decide (i8 < (lN cL)))))] ?_
      refine bK h1 (fun h1 => ?_) (fun h1 => ?_)
      · refine bO ?_
        refine bL [(0, (eL aE l0)), (5, (eL (eI) cL)), (7, (.msl 1 lo6 0 (List.length eZ))), (8, (eI i8))] ?_
        refine aN ?_
        refine bT 5 ?_
        refine aV aF 10 ?_
        obtain ⟨c8, h1⟩ := bG h1
        refine iB 6 [0 ≤ i8 ∧ i8 < (lN cL)] ⟨c8, trivial⟩ ?_
        obtain ⟨x9, hx10, h1⟩ := bB h1
        refine dB (RX l0 (gD cL i8) _ hx10) hO ?_
        intro H hO
        refine kM [(eI x9)] 1 ?_
        obtain ⟨c13, h1⟩ := bG h1
        refine wD (eI) eZ ([x9]) 0 lo6 1 8 (dA [(eI x9)]) (fun lo12 => [(lo12, 1, List.map (eI) (eZ ++ ([x9])))]) hO (by kernel_rfl) c13 ?_
        intro lo12 H hO
        refine bH ?_
        refine cO [(0, (eL aE l0)), (5, (eL (eI) cL)), (7, (.msl 1 lo12 0 (List.length (eZ ++ ([x9]))))), (8, (eI i8))] ?_
        refine aH (aX (aG (?_)))
        refine aV aF 3 ?_
        refine bH ?_
        exact aH (aG (⟨rfl, _, (oI h1).symm, _, aW, hO⟩))
      refine cX 4 ?_
      obtain rfl := oI h1
      obtain rfl : _ = rr0 := ho0
      replace h0 : uY cL eZ = some r := h0
      exact aH (aS (aS (bQ (aG (⟨rfl, _, _, aW, hO, h0⟩)))))
    refine aU aF 1 [] [(6, (eI (0 : Int)))] ?_
    refine bT 2 ?_
    refine bC (l := [(0, (eL aE l0)), (5, (eL (eI) ([]))), (6, (eI (0 : Int)))]) ⟨[(0, (eL aE l0)), (5, (.sl true 0 (fun _ => .bad))), (6, (eI (0 : Int)))], by kernel_rfl, rfl, ⟨bA.refl _, iY, bA.refl _, trivial⟩⟩ ?_
    refine cG (fun T H => ∃ cL : (List Int), ∃ i6 : Int, Has T [(0, (eL aE l0)), (5, (eL (eI) cL)), (6, (eI i6))] ∧ aL ⟨H0, [], []⟩ H [] ∧ zO l0 cL i6 = some r) ?_ ⟨[], (0 : Int), aW, hO, h0⟩
    clear hO h0
    rintro T H ⟨cL, i6, hT, hO, h0⟩
    refine bC hT ?_
    clear hT
    unfold zO at h0
    obtain ⟨rr0, hl0, h0⟩ := bB h0
    refine cZ (fun (s : (List Int) × Int) T H => Has T [(0, (eL aE l0)), (5, (eL (eI) s.1)), (6, (eI s.2))] ∧ aL ⟨H0, [], []⟩ H []) hl0 ⟨aW, hO⟩ ?_
    clear hO
    rintro k0 s out1 T H ⟨hT, hO⟩ h1 ho0
    obtain ⟨cL, i6⟩ := s
    replace h1 : kE l0 cL i6 = some out1 := h1
    try dsimp only at hT
    refine bC hT ?_
    clear hT
    unfold kE at h1
    refine aN ?_
    refine aU aF 4 [] [(33, (aK (decide (i6 < (lN l0)))))] ?_
    refine bK h1 (fun h1 => ?_) (fun h1 => ?_)
    · refine bO ?_
      refine bL [(0, (eL aE l0)), (5, (eL (eI) cL)), (6, (eI i6))] ?_
      refine cK (fun T H => ∃ cL : (List Int), Has T [(0, (eL aE l0)), (5, (eL (eI) cL)), (6, (eI i6))] ∧ aL ⟨H0, [], []⟩ H [] ∧ vO l0 cL i6 = some out1) ?_ ?_
      · clear hO h1
        rintro T H ⟨cL, hT, hO, h1⟩
        refine bC hT ?_
        clear hT
        unfold vO at h1
        refine aV aF 3 ?_
        refine bH ?_
        exact aH (aG (⟨rfl, _, (oI h1).symm, aW, hO⟩))
      refine bT 3 ?_
      refine aN ?_
      refine aN ?_
      refine aV aF 14 ?_
      obtain ⟨c18, h1⟩ := bG h1
      obtain ⟨c19, h1⟩ := bG h1
      refine oH [0 ≤ i6 ∧ i6 < (lN l0), (((!(decide (((gD l0 i6).At) < (-1 : Int))))) = true → 0 ≤ i6 ∧ i6 < (lN l0))] ⟨c18, c19, trivial⟩ ?_
      refine bS [] [(49, (aK ((decide (((gD l0 i6).At) < (-1 : Int))) || (decide ((1125899906842624 : Int) < ((gD l0 i6).At))))))] ?_
      refine bK h1 (fun h1 => ?_) (fun h1 => ?_)
      · refine bV aF 2 [(2, (.sl true 0 (fun _ => .bad))), (3, (eI (13 : Int)))] ?_
        refine bM ?_
        refine cV (l := [(2, (eL aE ([]))), (3, (eI (13 : Int)))]) ⟨[(2, (.sl true 0 (fun _ => .bad))), (3, (eI (13 : Int)))], by kernel_rfl, rfl, ⟨iY, bA.refl _, trivial⟩⟩ ?_
        obtain rfl := oI h1
        obtain rfl : _ = rr0 := ho0
        replace h0 : some ([], (13 : Int)) = some r := h0
        obtain rfl := oI h0
        exact aH (aP (bJ (aP (aP (bJ (aP (Q_r hO)))))))
      refine bO ?_
      refine bL [(0, (eL aE l0)), (5, (eL (eI) cL)), (6, (eI i6))] ?_
      refine aN ?_
      refine aV aF 6 ?_
      obtain ⟨c21, h1⟩ := bG h1
      refine oH [0 ≤ i6 ∧ i6 < (lN l0)] ⟨c21, trivial⟩ ?_
      refine bS [] [(55, (aK (decide (((gD l0 i6).At) < (1125899906842624 : Int)))))] ?_
      refine bK h1 (fun h1 => ?_) (fun h1 => ?_)
      · refine aV aF 8 ?_
        obtain ⟨c23, h1⟩ := bG h1
        refine iB 6 [0 ≤ i6 ∧ i6 < (lN l0)] ⟨c23, trivial⟩ ?_
        obtain ⟨x24, hx25, h1⟩ := bB h1
        refine dB (TO cL ((gD l0 i6).At) _ hx25) hO ?_
        intro H hO
        refine bH ?_
        exact aH (aX (aG (⟨rfl, _, aW, hO, h1⟩)))
      refine bO ?_
      exact aH (aX (aG (⟨rfl, _, aW, hO, h1⟩)))
    refine cX 2 ?_
    obtain rfl := oI h1
    obtain rfl : _ = rr0 := ho0
    replace h0 : vK l0 cL = some r := h0
    exact aH (aS (aS (bQ (aG (⟨rfl, _, aW, hO, h0⟩)))))
  refine aU aF 1 [] [(4, (eI (0 : Int)))] ?_
  refine bT 0 ?_
  refine cS [(0, (eL aE l0)), (4, (eI (0 : Int)))] ?_
  refine cG (fun T H => ∃ i4 : Int, Has T [(0, (eL aE l0)), (4, (eI i4))] ∧ aL ⟨H0, [], []⟩ H [] ∧ zG l0 i4 = some r) ?_ ⟨(0 : Int), aW, hO, h0⟩
  clear hO h0
  rintro T H ⟨i4, hT, hO, h0⟩
  refine bC hT ?_
  clear hT
  unfold zG at h0
  obtain ⟨rr0, hl0, h0⟩ := bB h0
  refine cZ (fun (s : Int) T H => Has T [(0, (eL aE l0)), (4, (eI s))] ∧ aL ⟨H0, [], []⟩ H []) hl0 ⟨aW, hO⟩ ?_
  clear hO
  rintro k0 s out1 T H ⟨hT, hO⟩ h1 ho0
  obtain ⟨i4, rfl⟩ : ∃ x, x = s := ⟨_, rfl⟩
  replace h1 : qT l0 i4 = some out1 := h1
  refine bC hT ?_
  clear hT
  unfold qT at h1
  refine aN ?_
  refine aU aF 4 [] [(12, (aK (decide (i4 < (lN l0)))))] ?_
  refine bK h1 (fun h1 => ?_) (fun h1 => ?_)
  · refine bO ?_
    refine bL [(0, (eL aE l0)), (4, (eI i4))] ?_
    refine aN ?_
    refine bT 1 ?_
    refine aN ?_
    refine aV aF 14 ?_
    obtain ⟨c28, h1⟩ := bG h1
    obtain ⟨c29, h1⟩ := bG h1
    refine oH [0 ≤ i4 ∧ i4 < (lN l0), (((!(decide ((1048576 : Int) < ((gD l0 i4).Net))))) = true → 0 ≤ i4 ∧ i4 < (lN l0))] ⟨c28, c29, trivial⟩ ?_
    refine bS [] [(28, (aK ((decide ((1048576 : Int) < ((gD l0 i4).Net))) || (decide (((gD l0 i4).Net) < (-1048576 : Int))))))] ?_
    refine bK h1 (fun h1 => ?_) (fun h1 => ?_)
    · refine bV aF 2 [(2, (.sl true 0 (fun _ => .bad))), (3, (eI (2 : Int)))] ?_
      refine bM ?_
      refine cV (l := [(2, (eL aE ([]))), (3, (eI (2 : Int)))]) ⟨[(2, (.sl true 0 (fun _ => .bad))), (3, (eI (2 : Int)))], by kernel_rfl, rfl, ⟨iY, bA.refl _, trivial⟩⟩ ?_
      obtain rfl := oI h1
      obtain rfl : _ = rr0 := ho0
      replace h0 : some ([], (2 : Int)) = some r := h0
      obtain rfl := oI h0
      exact aH (bJ (aP (aP (bJ (aP (Q_r hO))))))
    refine bO ?_
    refine cO [(0, (eL aE l0)), (4, (eI i4))] ?_
    refine aH (aX (aG (?_)))
    refine aV aF 3 ?_
    refine bH ?_
    exact aH (aG (⟨rfl, _, (oI h1).symm, aW, hO⟩))
  refine cX 0 ?_
  obtain rfl := oI h1
  obtain rfl : _ = rr0 := ho0
  replace h0 : vF l0 = some r := h0
  exact aH (aS (aS (bQ (aG (⟨rfl, aW, hO, h0⟩)))))

theorem XI (lo0p : Nat) (l0 : (List aB)) (r1 : (List aI)) (f2 : (List aD)) (r : (List aB)) (h0 : yQ l0 r1 f2 = some r) : aAc Try.prog 77 lo0p 3 (List.map aA l0) [(.msl 3 lo0p 0 (List.length l0)), (eL aJ r1), (eL aE f2)] (fun lo => .msl 3 lo 0 (List.length r)) (List.map aA r) := by
  intro H0 hl0
  refine cF Try.func77 ?_
  have hO := aL.qX hl0
  clear hl0
  unfold yQ at h0
  refine aU aF 1 [] [] ?_
  refine cK (fun T H => ∃ l0 : List aB, ∃ lo1 : Nat, Has T [(0, (.msl 3 lo1 0 (List.length l0)))] ∧ aL ⟨H0, [lo0p], []⟩ H [(lo1, 3, List.map aA l0)] ∧ BE l0 = some r) ?_ ?_
  · clear hO h0
    rintro T H ⟨l0, lo1, hT, hO, h0⟩
    refine bC hT ?_
    clear hT
    unfold BE at h0
    refine bV aF 2 [(6, (.msl 3 lo1 0 (List.length l0)))] ?_
    refine bM ?_
    obtain rfl := oI h0
    exact aH (nU (x := (.msl 3 lo1 0 (List.length l0))) (by kernel_rfl) (bA.refl _) ⟨lo1, rfl, hO⟩)
  refine aU aF 1 [] [(7, (eI (0 : Int)))] ?_
  refine bT 0 ?_
  refine cS [(0, (.msl 3 lo0p 0 (List.length l0))), (1, (eL aJ r1)), (2, (eL aE f2)), (7, (eI (0 : Int)))] ?_
  refine cG (fun T H => ∃ l0 : List aB, ∃ i7 : Int, ∃ lo3 : Nat, Has T [(0, (.msl 3 lo3 0 (List.length l0))), (1, (eL aJ r1)), (2, (eL aE f2)), (7, (eI i7))] ∧ aL ⟨H0, [lo0p], []⟩ H [(lo3, 3, List.map aA l0)] ∧ BL l0 r1 f2 i7 = some r) ?_ ⟨l0, (0 : Int), lo0p, aW, hO, h0⟩
  clear hO h0
  rintro T H ⟨l0, i7, lo3, hT, hO, h0⟩
  refine bC hT ?_
  clear hT
  unfold BL at h0
  obtain ⟨rr0, hl0, h0⟩ := bB h0
  refine cZ (fun (s : List aB × Int) T H => ∃ lo3 : Nat, Has T [(0, (.msl 3 lo3 0 (List.length s.1))), (1, (eL aJ r1)), (2, (eL aE f2)), (7, (eI s.2))] ∧ aL ⟨H0, [lo0p], []⟩ H [(lo3, 3, List.map aA s.1)]) hl0 ⟨lo3, aW, hO⟩ ?_
  clear hO
  rintro k0 s out1 T H ⟨lo3, hT, hO⟩ h1 ho0
  obtain ⟨l0, i7⟩ := s
  replace h1 : qJ r1 f2 l0 i7 = some out1 := h1
  try dsimp only at hT
  refine bC hT ?_
  clear hT
  unfold qJ at h1
  refine aN ?_
  refine aU aF 4 [] [(11, (aK (decide (i7 < (lN f2)))))] ?_
  refine bK h1 (fun h1 => ?_) (fun h1 => ?_)
  · refine bO ?_
    refine bL [(0, (.msl 3 lo3 0 (List.length l0))), (1, (eL aJ r1)), (2, (eL aE f2)), (7, (eI i7))] ?_
    refine aN ?_
    refine bT 1 ?_
    refine fB (fC [22, 27, 29]) aF 18 ?_
    refine sG 1 ?_
    refine HE (xs := []) (k := 3) (by kernel_rfl) (by kernel_rfl) ?_
    refine sG 3 ?_
    obtain ⟨c10, h1⟩ := bG h1
    refine aC9 (e := aJ) r1 (fun _ => .bad) 3 32 (eL aJ r1) (by kernel_rfl) (by kernel_rfl) hO (AJ (fun _ => by kernel_rfl)) c10 ?_
    intro H hO
    obtain ⟨c11, h1⟩ := bG h1
    obtain ⟨c12, h1⟩ := bG h1
    refine cW 15 [0 ≤ i7 ∧ i7 < (lN f2), 0 ≤ i7 ∧ i7 < (lN f2)] ⟨c11, c12, trivial⟩ ?_
    refine HE (xs := [(aA (aB.mk r1 ((gD f2 i7).At) ((gD f2 i7).Net)))]) (k := 3) (by kernel_rfl) (by kernel_rfl) ?_
    obtain ⟨c14, h1⟩ := bG h1
    refine GR (e := aA) l0 ([aB.mk r1 ((gD f2 i7).At) ((gD f2 i7).Net)]) 0 lo3 3 40 (dA [(aA (aB.mk r1 ((gD f2 i7).At) ((gD f2 i7).Net)))]) (fun lo13 => [(lo13, 3, List.map aA (l0 ++ ([aB.mk r1 ((gD f2 i7).At) ((gD f2 i7).Net)])))]) (by kernel_rfl) (by kernel_rfl) hO (by kernel_rfl) (by kernel_rfl) c14 (fun _ => by kernel_rfl) ?_
    intro lo13 H hO
    refine jB ?_
    refine cO [(0, (.msl 3 lo13 0 (List.length (l0 ++ ([aB.mk r1 ((gD f2 i7).At) ((gD f2 i7).Net)]))))), (1, (eL aJ r1)), (2, (eL aE f2)), (7, (eI i7))] ?_
    refine aH (aX (aG (?_)))
    refine aV aF 3 ?_
    refine bH ?_
    exact aH (aG (⟨rfl, _, (oI h1).symm, _, aW, hO⟩))
  refine cX 0 ?_
  obtain rfl := oI h1
  obtain rfl : _ = rr0 := ho0
  replace h0 : BE l0 = some r := h0
  exact aH (aS (aS (bQ (aG (⟨rfl, _, _, aW, hO, h0⟩)))))

end Go.Abs
namespace Go.Abs
open Go Go.RowKit Go.Proofs
theorem WG (l0 : (List aB)) (r : ((List aB) × Int)) (h0 : xJ l0 = some r) : cE Try.prog 53 [(eL aA l0)] (.tup [(eL aA r.1), (eI r.2)]) := by
  intro H0
  refine cF Try.func53 ?_
  have hO := aL.start H0
  unfold xJ at h0
  refine aU aF 2 [] [] ?_
  refine cK (fun T H => Has T [(0, (eL aA l0))] ∧ aL ⟨H0, [], []⟩ H [] ∧ vA l0 = some r) ?_ ?_
  · clear hO h0
    rintro T H ⟨hT, hO, h0⟩
    refine bC hT ?_
    clear hT
    unfold vA at h0
    refine cK (fun T H => Has T [(0, (eL aA l0))] ∧ aL ⟨H0, [], []⟩ H [] ∧ uZ l0 = some r) ?_ ?_
    · clear hO h0
      rintro T H ⟨hT, hO, h0⟩
      refine bC hT ?_
      clear hT
      unfold uZ at h0
      refine aN ?_
      refine aV aF 2 ?_
      refine kM [] 3 ?_
      refine bH ?_
      refine bS [] [(6, (.sl true 0 (fun _ => .bad)))] ?_
      refine aN ?_
      refine aV aF 3 ?_
      refine bP 1 ?_
      obtain ⟨x1, hx2, h0⟩ := bB h0
      refine dB (LA l0 _ hx2) hO ?_
      intro H hO
      refine bH ?_
      refine bS [] [(7, (eL (eL aJ) x1))] ?_
      refine cK (fun T H => ∃ out6 : List aB, ∃ lo4 : Nat, Has T [(6, (.msl 3 lo4 0 (List.length out6)))] ∧ aL ⟨H0, [], []⟩ H [(lo4, 3, List.map aA out6)] ∧ sR out6 = some r) ?_ ?_
      · clear hO h0
        rintro T H ⟨out6, lo4, hT, hO, h0⟩
        refine bC hT ?_
        clear hT
        unfold sR at h0
        refine aN ?_
        refine aU aF 3 [] [(91, (aK (decide ((4096 : Int) < (lN out6)))))] ?_
        refine bK h0 (fun h0 => ?_) (fun h0 => ?_)
        · refine aN ?_
          refine aV aF 2 ?_
          refine bH ?_
          refine cO [(2, (.sl true 0 (fun _ => .bad))), (3, (eI (7 : Int)))] ?_
          replace hO := hO.pick (L' := []) [] (by decide) (by kernel_rfl)
          refine aH (aG (?_))
          refine bM ?_
          refine cV (l := [(2, (eL aA ([]))), (3, (eI (7 : Int)))]) ⟨[(2, (.sl true 0 (fun _ => .bad))), (3, (eI (7 : Int)))], by kernel_rfl, rfl, ⟨iY, bA.refl _, trivial⟩⟩ ?_
          obtain rfl := oI h0
          exact aH (aP (Q_r hO))
        refine bO ?_
        refine bL [(6, (.msl 3 lo4 0 (List.length out6)))] ?_
        refine bV aF 3 [(2, (.msl 3 lo4 0 (List.length out6))), (3, (eI (0 : Int)))] ?_
        refine bM ?_
        refine cO [(2, (.msl 3 lo4 0 (List.length out6))), (3, (eI (0 : Int)))] ?_
        refine uL (en := aA) out6 0 0 2 3 lo4 (List.length out6) hO (by kernel_rfl) (by kernel_rfl) (by kernel_rfl) (L' := []) (by kernel_rfl) ?_
        intro H6 hO
        obtain rfl := oI h0
        exact aH (Q_r hO)
      refine aU aF 1 [] [(8, (eI (0 : Int)))] ?_
      refine bT 4 ?_
      refine cS [(0, (eL aA l0)), (6, (.sl true 0 (fun _ => .bad))), (7, (eL (eL aJ) x1)), (8, (eI (0 : Int)))] ?_
      refine vJ (el := (fun _ => .bad)) 1 6 3 hO (by kernel_rfl) ?_
      intro lo22 H23 hO
      refine cG (fun T H => ∃ out6 : List aB, ∃ oW : (List (List aI)), ∃ i8 : Int, ∃ lo8 : Nat, Has T [(0, (eL aA l0)), (6, (.msl 3 lo8 0 (List.length out6))), (7, (eL (eL aJ) oW)), (8, (eI i8))] ∧ aL ⟨H0, [], []⟩ H [(lo8, 3, List.map aA out6)] ∧ zJ l0 out6 oW i8 = some r) ?_ ⟨([] : List aB), x1, (0 : Int), lo22, aW, hO, h0⟩
      clear hO h0
      rintro T H ⟨out6, oW, i8, lo8, hT, hO, h0⟩
      refine bC hT ?_
      clear hT
      unfold zJ at h0
      obtain ⟨rr0, hl0, h0⟩ := bB h0
      refine cZ (fun (s : List aB × Int) T H => ∃ lo8 : Nat, Has T [(0, (eL aA l0)), (6, (.msl 3 lo8 0 (List.length s.1))), (7, (eL (eL aJ) oW)), (8, (eI s.2))] ∧ aL ⟨H0, [], []⟩ H [(lo8, 3, List.map aA s.1)]) hl0 ⟨lo8, aW, hO⟩ ?_
      clear hO
      rintro k0 s out1 T H ⟨lo8, hT, hO⟩ h1 ho0
      obtain ⟨out6, i8⟩ := s
      replace h1 : oN l0 oW out6 i8 = some out1 := h1
      try dsimp only at hT
      refine bC hT ?_
      clear hT
      unfold oN at h1
      refine aN ?_
      refine aU aF 4 [] [(66, (aK (decide (i8 < (lN oW)))))] ?_
      refine bK h1 (fun h1 => ?_) (fun h1 => ?_)
      · refine bO ?_
        refine bL [(0, (eL aA l0)), (6, (.msl 3 lo8 0 (List.length out6))), (7, (eL (eL aJ) oW)), (8, (eI i8))] ?_
        refine aN ?_
        refine bT 5 ?_
        refine aN ?_
        refine aV aF 12 ?_
        obtain ⟨c10, h1⟩ := bG h1
        refine iB 5 [0 ≤ i8 ∧ i8 < (lN oW)] ⟨c10, trivial⟩ ?_
        obtain ⟨x11, hx12, h1⟩ := bB h1
        refine dB (IN l0 (gD oW i8) _ hx12) hO ?_
        intro H hO
        obtain ⟨x14, hx15, h1⟩ := bB h1
        refine dB (TC x11 _ hx15) hO ?_
        intro H hO
        refine bH ?_
        refine bS [] [(9, (eL aE x14.1)), (10, (eI x14.2))] ?_
        refine aN ?_
        refine aU aF 2 [] [(80, (aK (!decide (x14.2 = (0 : Int)))))] ?_
        refine bK h1 (fun h1 => ?_) (fun h1 => ?_)
        · refine aN ?_
          refine aV aF 3 ?_
          refine bH ?_
          refine cO [(2, (.sl true 0 (fun _ => .bad))), (3, (eI x14.2))] ?_
          replace hO := hO.pick (L' := []) [] (by decide) (by kernel_rfl)
          refine aH (aG (?_))
          refine bM ?_
          refine cV (l := [(2, (eL aA ([]))), (3, (eI x14.2))]) ⟨[(2, (.sl true 0 (fun _ => .bad))), (3, (eI x14.2))], by kernel_rfl, rfl, ⟨iY, bA.refl _, trivial⟩⟩ ?_
          obtain rfl := oI h1
          obtain rfl : _ = rr0 := ho0
          replace h0 : some ([], x14.2) = some r := h0
          obtain rfl := oI h0
          exact aH (aP (bJ (aP (aP (bJ (aP (Q_r hO)))))))
        refine bO ?_
        refine bL [(0, (eL aA l0)), (6, (.msl 3 lo8 0 (List.length out6))), (7, (eL (eL aJ) oW)), (8, (eI i8)), (9, (eL aE x14.1))] ?_
        refine aV aF 8 ?_
        obtain ⟨c18, h1⟩ := bG h1
        refine iB 6 [0 ≤ i8 ∧ i8 < (lN oW)] ⟨c18, trivial⟩ ?_
        obtain ⟨x19, hx20, h1⟩ := bB h1
        refine XQ (L' := fun lo21 => [(lo21, 3, List.map aA x19)]) 0 lo8 3 (List.map aA out6) (List.map aA x19) 77 [(.msl 3 lo8 0 (List.length out6)), (eL aJ (gD oW i8)), (eL aE x14.1)] (fun lo21 => (.msl 3 lo21 0 (List.length x19))) (by kernel_rfl) (by kernel_rfl) (XI lo8 out6 (gD oW i8) x14.1 _ hx20) hO (by kernel_rfl) (fun _ => by kernel_rfl) ?_
        intro lo21 H hO
        refine bH ?_
        refine cO [(0, (eL aA l0)), (6, (.msl 3 lo21 0 (List.length x19))), (7, (eL (eL aJ) oW)), (8, (eI i8))] ?_
        refine aH (aX (aG (?_)))
        refine aV aF 3 ?_
        refine bH ?_
        exact aH (aG (⟨rfl, _, (oI h1).symm, _, aW, hO⟩))
      refine cX 4 ?_
      obtain rfl := oI h1
      obtain rfl : _ = rr0 := ho0
      replace h0 : sR out6 = some r := h0
      exact aH (aS (aS (bQ (aG (⟨rfl, _, _, aW, hO, h0⟩)))))
    refine aU aF 1 [] [(5, (eI (0 : Int)))] ?_
    refine bT 2 ?_
    refine cS [(0, (eL aA l0)), (5, (eI (0 : Int)))] ?_
    refine cG (fun T H => ∃ i5 : Int, Has T [(0, (eL aA l0)), (5, (eI i5))] ∧ aL ⟨H0, [], []⟩ H [] ∧ zQ l0 i5 = some r) ?_ ⟨(0 : Int), aW, hO, h0⟩
    clear hO h0
    rintro T H ⟨i5, hT, hO, h0⟩
    refine bC hT ?_
    clear hT
    unfold zQ at h0
    obtain ⟨rr0, hl0, h0⟩ := bB h0
    refine cZ (fun (s : Int) T H => Has T [(0, (eL aA l0)), (5, (eI s))] ∧ aL ⟨H0, [], []⟩ H []) hl0 ⟨aW, hO⟩ ?_
    clear hO
    rintro k0 s out1 T H ⟨hT, hO⟩ h1 ho0
    obtain ⟨i5, rfl⟩ : ∃ x, x = s := ⟨_, rfl⟩
    replace h1 : qQ l0 i5 = some out1 := h1
    refine bC hT ?_
    clear hT
    unfold qQ at h1
    refine aN ?_
    refine aU aF 4 [] [(43, (aK (decide (i5 < (lN l0)))))] ?_
    refine bK h1 (fun h1 => ?_) (fun h1 => ?_)
    · refine bO ?_
      refine bL [(0, (eL aA l0)), (5, (eI i5))] ?_
      refine aN ?_
      refine bT 3 ?_
      refine aN ?_
      refine aV aF 14 ?_
      obtain ⟨c25, h1⟩ := bG h1
      obtain ⟨c26, h1⟩ := bG h1
      refine oH [0 ≤ i5 ∧ i5 < (lN l0), (((!(decide (((gD l0 i5).At) < (-1 : Int))))) = true → 0 ≤ i5 ∧ i5 < (lN l0))] ⟨c25, c26, trivial⟩ ?_
      refine bS [] [(59, (aK ((decide (((gD l0 i5).At) < (-1 : Int))) || (decide ((1125899906842624 : Int) < ((gD l0 i5).At))))))] ?_
      refine bK h1 (fun h1 => ?_) (fun h1 => ?_)
      · refine bV aF 2 [(2, (.sl true 0 (fun _ => .bad))), (3, (eI (13 : Int)))] ?_
        refine bM ?_
        refine cV (l := [(2, (eL aA ([]))), (3, (eI (13 : Int)))]) ⟨[(2, (.sl true 0 (fun _ => .bad))), (3, (eI (13 : Int)))], by kernel_rfl, rfl, ⟨iY, bA.refl _, trivial⟩⟩ ?_
        obtain rfl := oI h1
        obtain rfl : _ = rr0 := ho0
        replace h0 : some ([], (13 : Int)) = some r := h0
        obtain rfl := oI h0
        exact aH (bJ (aP (aP (bJ (aP (Q_r hO))))))
      refine bO ?_
      refine cO [(0, (eL aA l0)), (5, (eI i5))] ?_
      refine aH (aX (aG (?_)))
      refine aV aF 3 ?_
      refine bH ?_
      exact aH (aG (⟨rfl, _, (oI h1).symm, aW, hO⟩))
    refine cX 2 ?_
    obtain rfl := oI h1
    obtain rfl : _ = rr0 := ho0
    replace h0 : uZ l0 = some r := h0
    exact aH (aS (aS (bQ (aG (⟨rfl, aW, hO, h0⟩)))))
  refine aU aF 1 [] [(4, (eI (0 : Int)))] ?_
  refine bT 0 ?_
  refine cS [(0, (eL aA l0)), (4, (eI (0 : Int)))] ?_
  refine cG (fun T H => ∃ i4 : Int, Has T [(0, (eL aA l0)), (4, (eI i4))] ∧ aL ⟨H0, [], []⟩ H [] ∧ zI l0 i4 = some r) ?_ ⟨(0 : Int), aW, hO, h0⟩
  clear hO h0
  rintro T H ⟨i4, hT, hO, h0⟩
  refine bC hT ?_
  clear hT
  unfold zI at h0
  obtain ⟨rr0, hl0, h0⟩ := bB h0
  refine cZ (fun (s : Int) T H => Has T [(0, (eL aA l0)), (4, (eI s))] ∧ aL ⟨H0, [], []⟩ H []) hl0 ⟨aW, hO⟩ ?_
  clear hO
  rintro k0 s out1 T H ⟨hT, hO⟩ h1 ho0
  obtain ⟨i4, rfl⟩ : ∃ x, x = s := ⟨_, rfl⟩
  replace h1 : qS l0 i4 = some out1 := h1
  refine bC hT ?_
  clear hT
  unfold qS at h1
  refine aN ?_
  refine aU aF 4 [] [(14, (aK (decide (i4 < (lN l0)))))] ?_
  refine bK h1 (fun h1 => ?_) (fun h1 => ?_)
  · refine bO ?_
    refine bL [(0, (eL aA l0)), (4, (eI i4))] ?_
    refine aN ?_
    refine bT 1 ?_
    refine aN ?_
    refine aV aF 23 ?_
    obtain ⟨c29, h1⟩ := bG h1
    refine iB 5 [0 ≤ i4 ∧ i4 < (lN l0)] ⟨c29, trivial⟩ ?_
    obtain ⟨x30, hx31, h1⟩ := bB h1
    refine dB (CK ((gD l0 i4).Row) _ hx31) hO ?_
    intro H hO
    obtain ⟨c33, h1⟩ := bG h1
    obtain ⟨c34, h1⟩ := bG h1
    refine oH [(((!(!x30))) = true → 0 ≤ i4 ∧ i4 < (lN l0)), (((!((!x30) || (decide ((1048576 : Int) < ((gD l0 i4).Net)))))) = true → 0 ≤ i4 ∧ i4 < (lN l0))] ⟨c33, c34, trivial⟩ ?_
    refine bS [] [(39, (aK (((!x30) || (decide ((1048576 : Int) < ((gD l0 i4).Net)))) || (decide (((gD l0 i4).Net) < (-1048576 : Int))))))] ?_
    refine bK h1 (fun h1 => ?_) (fun h1 => ?_)
    · refine bV aF 2 [(2, (.sl true 0 (fun _ => .bad))), (3, (eI (2 : Int)))] ?_
      refine bM ?_
      refine cV (l := [(2, (eL aA ([]))), (3, (eI (2 : Int)))]) ⟨[(2, (.sl true 0 (fun _ => .bad))), (3, (eI (2 : Int)))], by kernel_rfl, rfl, ⟨iY, bA.refl _, trivial⟩⟩ ?_
      obtain rfl := oI h1
      obtain rfl : _ = rr0 := ho0
      replace h0 : some ([], (2 : Int)) = some r := h0
      obtain rfl := oI h0
      exact aH (bJ (aP (aP (bJ (aP (Q_r hO))))))
    refine bO ?_
    refine cO [(0, (eL aA l0)), (4, (eI i4))] ?_
    refine aH (aX (aG (?_)))
    refine aV aF 3 ?_
    refine bH ?_
    exact aH (aG (⟨rfl, _, (oI h1).symm, aW, hO⟩))
  refine cX 0 ?_
  obtain rfl := oI h1
  obtain rfl : _ = rr0 := ho0
  replace h0 : vA l0 = some r := h0
  exact aH (aS (aS (bQ (aG (⟨rfl, aW, hO, h0⟩)))))

theorem XM (a0 : (List aB)) (b1 : (List aB)) (r : ((List aB) × Int)) (h0 : yN a0 b1 = some r) : cE Try.prog 29 [(eL aA a0), (eL aA b1)] (.tup [(eL aA r.1), (eI r.2)]) := by
  intro H0
  refine cF Try.func29 ?_
  have hO := aL.start H0
  unfold yN at h0
  refine aU aF 2 [] [] ?_
  refine aN ?_
  refine aN ?_
  refine aV aF 8 ?_
  refine bP 1 ?_
  obtain ⟨x1, hx2, h0⟩ := bB h0
  refine dB (FU a0 _ hx2) hO ?_
  intro H hO
  refine bP 5 ?_
  obtain ⟨x4, hx5, h0⟩ := bB h0
  refine pM [(9, false)] 28 [(eL aA b1)] (aK x4) (!(!x1)) (by kernel_rfl) (by kernel_rfl) (by kernel_rfl) (fun hb6 => (FU b1 _ (qW hx5 hb6))) hO ?_
  intro H hO
  refine bH ?_
  refine bS [] [(13, (aK ((!x1) || (!x4))))] ?_
  refine bK h0 (fun h0 => ?_) (fun h0 => ?_)
  · refine bV aF 2 [(4, (.sl true 0 (fun _ => .bad))), (5, (eI (2 : Int)))] ?_
    refine bM ?_
    refine cV (l := [(4, (eL aA ([]))), (5, (eI (2 : Int)))]) ⟨[(4, (.sl true 0 (fun _ => .bad))), (5, (eI (2 : Int)))], by kernel_rfl, rfl, ⟨iY, bA.refl _, trivial⟩⟩ ?_
    obtain rfl := oI h0
    exact aH (aP (Q_r hO))
  refine bO ?_
  refine bL [(0, (eL aA a0)), (1, (eL aA b1))] ?_
  refine aN ?_
  refine aV aF 10 ?_
  refine kM [] 3 ?_
  refine bP 2 ?_
  obtain ⟨c13, h0⟩ := bG h0
  refine LG (e := aA) a0 (fun _ => .bad) 3 40 (eL aA a0) (fun lo12 => [(lo12, 3, List.map aA a0)]) (by kernel_rfl) (by kernel_rfl) hO (AJ (fun _ => by kernel_rfl)) c13 (fun _ => by kernel_rfl) ?_
  intro lo12 H hO
  refine bP 4 ?_
  obtain ⟨c15, h0⟩ := bG h0
  refine wD aA a0 b1 0 lo12 3 40 (eL aA b1) (fun lo14 => [(lo14, 3, List.map aA (a0 ++ b1))]) hO (AJ (fun _ => by kernel_rfl)) c15 ?_
  intro lo14 H hO
  refine uI (e := aA) (a0 ++ b1) 0 18 3 lo14 (List.length (a0 ++ b1)) [] (by kernel_rfl) hO (by kernel_rfl) (by kernel_rfl) (by kernel_rfl) (by kernel_rfl) ?_
  intro H hO
  obtain ⟨x16, hx17, h0⟩ := bB h0
  refine dB (WG (a0 ++ b1) _ hx17) hO ?_
  intro H hO
  refine bH ?_
  refine bL [(4, (eL aA x16.1)), (5, (eI x16.2))] ?_
  refine bM ?_
  obtain rfl := oI h0
  exact aH (Q_r hO)

theorem LN (lo0p : Nat) (bF : Nat) (cN : Nat) (a0 : bE) (k1 : Int) (l2 : (List aB)) (r : (Int × bE)) (h0 : qV a0 k1 l2 = some r) : qE Try.prog 13 [(.lp lo0p 0 0), (eI k1), (eL aA l2)] [(lo0p, 2, [(.agg [(.msl 1 bF 0 (List.length a0.Clocks)), (.msl 1 cN 0 (List.length a0.aR))])]), (bF, 1, List.map (eI) a0.Clocks), (cN, 1, List.map (eL aA) a0.aR)] (fun x L => ∃ tA : Nat, ∃ FH : Nat, x = (eI r.1) ∧ L = [(lo0p, 2, [(.agg [(.msl 1 tA 0 (List.length r.2.Clocks)), (.msl 1 FH 0 (List.length r.2.aR))])]), (tA, 1, List.map (eI) r.2.Clocks), (FH, 1, List.map (eL aA) r.2.aR)]) := by
  intro F H0 hO
  obtain ⟨Fh, Fe, Fg⟩ := F
  refine cF Try.func13 ?_
  unfold qV at h0
  refine aU aF 1 [] [] ?_
  refine aN ?_
  refine aN ?_
  refine aV aF 11 ?_
  refine bP 7 ?_
  refine wB [(12, false)] 0 lo0p 2 0 (.agg [(.msl 1 bF 0 (List.length a0.Clocks)), (.msl 1 cN 0 (List.length a0.aR))]) (.msl 1 bF 0 (List.length a0.Clocks)) [(.agg [(.msl 1 bF 0 (List.length a0.Clocks)), (.msl 1 cN 0 (List.length a0.aR))])] (by kernel_rfl) (by kernel_rfl) hO (by kernel_rfl) (!(decide (k1 < (0 : Int)))) (by kernel_rfl) (fun _ => rfl) ?_
  refine bH ?_
  refine bS [] [(20, (aK ((decide (k1 < (0 : Int))) || (decide ((lN a0.Clocks) ≤ k1)))))] ?_
  refine bK h0 (fun h0 => ?_) (fun h0 => ?_)
  · refine bV aF 1 [(0, (.lp lo0p 0 0)), (6, (eI (3 : Int)))] ?_
    refine bM ?_
    obtain rfl := oI h0
    exact aH (aP (mO hO ⟨bF, cN, rfl, rfl⟩))
  refine bO ?_
  refine bL [(0, (.lp lo0p 0 0)), (1, (eI k1)), (2, (eL aA l2))] ?_
  refine aN ?_
  refine aN ?_
  refine aV aF 3 ?_
  refine bP 1 ?_
  obtain ⟨x2, hx3, h0⟩ := bB h0
  refine dB (FU l2 _ hx3) hO ?_
  intro H hO
  refine bH ?_
  refine bS [] [(23, (aK (!x2)))] ?_
  refine bK h0 (fun h0 => ?_) (fun h0 => ?_)
  · refine bV aF 1 [(0, (.lp lo0p 0 0)), (6, (eI (2 : Int)))] ?_
    refine bM ?_
    obtain rfl := oI h0
    exact aH (aP (mO hO ⟨bF, cN, rfl, rfl⟩))
  refine bO ?_
  refine bL [(0, (.lp lo0p 0 0)), (1, (eI k1)), (2, (eL aA l2))] ?_
  refine cK (fun T H => ∃ a0 : bE, ∃ lo6 : Nat, ∃ lo7 : Nat, Has T [(0, (.lp lo0p 0 0)), (1, (eI k1)), (2, (eL aA l2))] ∧ aL ⟨Fh, Fe, Fg⟩ H [(lo0p, 2, [(.agg [(.msl 1 lo6 0 (List.length a0.Clocks)), (.msl 1 lo7 0 (List.length a0.aR))])]), (lo6, 1, List.map (eI) a0.Clocks), (lo7, 1, List.map (eL aA) a0.aR)] ∧ qH a0 k1 l2 = some r) ?_ ?_
  · clear hO h0
    rintro T H ⟨a0, lo6, lo7, hT, hO, h0⟩
    refine bC hT ?_
    clear hT
    unfold qH at h0
    refine aN ?_
    refine aV aF 14 ?_
    refine bP 3 ?_
    refine eF 0 lo0p 2 0 (.agg [(.msl 1 lo6 0 (List.length a0.Clocks)), (.msl 1 lo7 0 (List.length a0.aR))]) (.msl 1 lo7 0 (List.length a0.aR)) [(.agg [(.msl 1 lo6 0 (List.length a0.Clocks)), (.msl 1 lo7 0 (List.length a0.aR))])] hO rfl ?_
    obtain ⟨c8, h0⟩ := bG h0
    refine iB 6 [0 ≤ k1 ∧ k1 < (lN a0.aR)] ⟨c8, trivial⟩ ?_
    refine eF 2 lo7 1 (0 + Int.toNat k1) (eL aA (gD a0.aR k1)) (eL aA (gD a0.aR k1)) (List.map (eL aA) a0.aR) hO (cD c8) ?_
    refine bP 8 ?_
    obtain ⟨x9, hx10, h0⟩ := bB h0
    refine dB (XM (gD a0.aR k1) l2 _ hx10) hO ?_
    intro H hO
    refine bH ?_
    refine bS [2] [(8, (eL aA x9.1)), (9, (eI x9.2))] ?_
    refine aN ?_
    refine aU aF 2 [] [(56, (aK (!decide (x9.2 = (0 : Int)))))] ?_
    refine bK h0 (fun h0 => ?_) (fun h0 => ?_)
    · refine bV aF 2 [(0, (.lp lo0p 0 0)), (6, (eI x9.2))] ?_
      refine bM ?_
      obtain rfl := oI h0
      exact aH (aP (mO hO ⟨lo6, lo7, rfl, rfl⟩))
    refine bO ?_
    refine bL [(0, (.lp lo0p 0 0)), (1, (eI k1)), (8, (eL aA x9.1))] ?_
    refine aN ?_
    refine aV aF 8 ?_
    refine bP 3 ?_
    refine eF 0 lo0p 2 0 (.agg [(.msl 1 lo6 0 (List.length a0.Clocks)), (.msl 1 lo7 0 (List.length a0.aR))]) (.msl 1 lo7 0 (List.length a0.aR)) [(.agg [(.msl 1 lo6 0 (List.length a0.Clocks)), (.msl 1 lo7 0 (List.length a0.aR))])] hO rfl ?_
    obtain ⟨c13, h0⟩ := bG h0
    refine iB 7 [0 ≤ k1 ∧ k1 < (lN a0.aR)] ⟨c13, trivial⟩ ?_
    refine mQ 2 lo7 1 (0 + Int.toNat k1) (eL aA (gD a0.aR k1)) (eL aA x9.1) (List.map (eL aA) a0.aR) [(lo0p, 2, [(.agg [(.msl 1 lo6 0 (List.length a0.Clocks)), (.msl 1 lo7 0 (List.length a0.aR))])]), (lo6, 1, List.map (eI) a0.Clocks), (lo7, 1, List.map (eL aA) (List.set a0.aR (Int.toNat k1) x9.1))] hO (cD c13) (by simp only [List.set, mA]) ?_
    intro H hO
    refine cT ?_
    refine cO [(0, (.lp lo0p 0 0))] ?_
    replace hO : aL ⟨Fh, Fe, Fg⟩ H [(lo0p, 2, [(.agg [(.msl 1 lo6 0 (List.length a0.Clocks)), (.msl 1 lo7 0 (List.length (List.set a0.aR (Int.toNat k1) x9.1)))])]), (lo6, 1, List.map (eI) a0.Clocks), (lo7, 1, List.map (eL aA) (List.set a0.aR (Int.toNat k1) x9.1))] := by simpa only [List.length_set] using hO
    refine aH (aG (?_))
    refine aU aF 1 [] [(6, (eI (0 : Int)))] ?_
    refine bM ?_
    obtain rfl := oI h0
    exact aH (mO hO ⟨lo6, lo7, rfl, rfl⟩)
  refine aU aF 1 [] [(7, (eI (0 : Int)))] ?_
  refine bT 0 ?_
  refine cS [(0, (.lp lo0p 0 0)), (1, (eI k1)), (2, (eL aA l2)), (7, (eI (0 : Int)))] ?_
  refine cG (fun T H => ∃ a0 : bE, ∃ i7 : Int, ∃ lo16 : Nat, ∃ lo17 : Nat, Has T [(0, (.lp lo0p 0 0)), (1, (eI k1)), (2, (eL aA l2)), (7, (eI i7))] ∧ aL ⟨Fh, Fe, Fg⟩ H [(lo0p, 2, [(.agg [(.msl 1 lo16 0 (List.length a0.Clocks)), (.msl 1 lo17 0 (List.length a0.aR))])]), (lo16, 1, List.map (eI) a0.Clocks), (lo17, 1, List.map (eL aA) a0.aR)] ∧ tC a0 k1 l2 i7 = some r) ?_ ⟨a0, (0 : Int), bF, cN, aW, hO, h0⟩
  clear hO h0
  rintro T H ⟨a0, i7, lo16, lo17, hT, hO, h0⟩
  refine bC hT ?_
  clear hT
  unfold tC at h0
  obtain ⟨rr0, hl0, h0⟩ := bB h0
  refine cZ (fun (s : bE × Int) T H => ∃ lo16 : Nat, ∃ lo17 : Nat, Has T [(0, (.lp lo0p 0 0)), (1, (eI k1)), (2, (eL aA l2)), (7, (eI s.2))] ∧ aL ⟨Fh, Fe, Fg⟩ H [(lo0p, 2, [(.agg [(.msl 1 lo16 0 (List.length s.1.Clocks)), (.msl 1 lo17 0 (List.length s.1.aR))])]), (lo16, 1, List.map (eI) s.1.Clocks), (lo17, 1, List.map (eL aA) s.1.aR)]) hl0 ⟨lo16, lo17, aW, hO⟩ ?_
  clear hO
  rintro k0 s out1 T H ⟨lo16, lo17, hT, hO⟩ h1 ho0
  obtain ⟨a0, i7⟩ := s
  replace h1 : nO k1 l2 a0 i7 = some out1 := h1
  try dsimp only at hT
  refine bC hT ?_
  clear hT
  unfold nO at h1
  refine aN ?_
  refine aU aF 4 [] [(27, (aK (decide (i7 < (lN l2)))))] ?_
  refine bK h1 (fun h1 => ?_) (fun h1 => ?_)
  · refine bO ?_
    refine bL [(0, (.lp lo0p 0 0)), (1, (eI k1)), (2, (eL aA l2)), (7, (eI i7))] ?_
    refine aN ?_
    refine bT 1 ?_
    refine aN ?_
    refine fB (fC [34]) aF 13 ?_
    obtain ⟨c19, h1⟩ := bG h1
    refine cW 8 [0 ≤ i7 ∧ i7 < (lN l2)] ⟨c19, trivial⟩ ?_
    refine kO 0 lo0p 2 0 (.agg [(.msl 1 lo16 0 (List.length a0.Clocks)), (.msl 1 lo17 0 (List.length a0.aR))]) (.msl 1 lo16 0 (List.length a0.Clocks)) [(.agg [(.msl 1 lo16 0 (List.length a0.Clocks)), (.msl 1 lo17 0 (List.length a0.aR))])] hO rfl ?_
    obtain ⟨c20, h1⟩ := bG h1
    refine cW 11 [0 ≤ k1 ∧ k1 < (lN a0.Clocks)] ⟨c20, trivial⟩ ?_
    refine kO 1 lo16 1 (0 + Int.toNat k1) (eI (gD a0.Clocks k1)) (eI (gD a0.Clocks k1)) (List.map (eI) a0.Clocks) hO (cD c20) ?_
    refine jB ?_
    refine bS [] [(42, (aK (decide (((gD l2 i7).At) < (gD a0.Clocks k1)))))] ?_
    refine bK h1 (fun h1 => ?_) (fun h1 => ?_)
    · refine bV aF 1 [(0, (.lp lo0p 0 0)), (6, (eI (16 : Int)))] ?_
      refine bM ?_
      obtain rfl := oI h1
      obtain rfl : _ = rr0 := ho0
      replace h0 : some ((16 : Int), a0) = some r := h0
      obtain rfl := oI h0
      exact aH (bJ (aP (aP (bJ (aP (mO hO ⟨lo16, lo17, rfl, rfl⟩))))))
    refine bO ?_
    refine cO [(0, (.lp lo0p 0 0)), (1, (eI k1)), (2, (eL aA l2)), (7, (eI i7))] ?_
    refine aH (aX (aG (?_)))
    refine aV aF 3 ?_
    refine bH ?_
    exact aH (aG (⟨rfl, _, (oI h1).symm, _, _, aW, hO⟩))
  refine cX 0 ?_
  obtain rfl := oI h1
  obtain rfl : _ = rr0 := ho0
  replace h0 : qH a0 k1 l2 = some r := h0
  exact aH (aS (aS (bQ (aG (⟨rfl, _, _, _, aW, hO, h0⟩)))))

theorem UH (t0 : Int) (r : Bool) (h0 : AW t0 = some r) : cE Try.prog 30 [(eI t0)] (aK r) := by
  intro H0
  refine cF Try.func30 ?_
  have hO := aL.start H0
  unfold AW at h0
  refine aU aF 1 [] [] ?_
  refine bV aF 7 [(2, (aK ((decide ((0 : Int) ≤ t0)) && (decide (t0 ≤ (1125899906842624 : Int))))))] ?_
  refine bM ?_
  obtain rfl := oI h0
  exact aH (Q_r hO)

theorem JA (lo0p : Nat) (bF : Nat) (cN : Nat) (a0 : bE) (k1 : Int) (t2 : Int) (r : (Int × bE)) (h0 : oZ a0 k1 t2 = some r) : qE Try.prog 15 [(.lp lo0p 0 0), (eI k1), (eI t2)] [(lo0p, 2, [(.agg [(.msl 1 bF 0 (List.length a0.Clocks)), (.msl 1 cN 0 (List.length a0.aR))])]), (bF, 1, List.map (eI) a0.Clocks), (cN, 1, List.map (eL aA) a0.aR)] (fun x L => ∃ tA : Nat, ∃ FH : Nat, x = (eI r.1) ∧ L = [(lo0p, 2, [(.agg [(.msl 1 tA 0 (List.length r.2.Clocks)), (.msl 1 FH 0 (List.length r.2.aR))])]), (tA, 1, List.map (eI) r.2.Clocks), (FH, 1, List.map (eL aA) r.2.aR)]) := by
  intro F H0 hO
  obtain ⟨Fh, Fe, Fg⟩ := F
  refine cF Try.func15 ?_
  unfold oZ at h0
  refine aU aF 1 [] [] ?_
  refine aN ?_
  refine aN ?_
  refine aV aF 11 ?_
  refine bP 7 ?_
  refine wB [(9, false)] 0 lo0p 2 0 (.agg [(.msl 1 bF 0 (List.length a0.Clocks)), (.msl 1 cN 0 (List.length a0.aR))]) (.msl 1 bF 0 (List.length a0.Clocks)) [(.agg [(.msl 1 bF 0 (List.length a0.Clocks)), (.msl 1 cN 0 (List.length a0.aR))])] (by kernel_rfl) (by kernel_rfl) hO (by kernel_rfl) (!(decide (k1 < (0 : Int)))) (by kernel_rfl) (fun _ => rfl) ?_
  refine bH ?_
  refine bS [] [(17, (aK ((decide (k1 < (0 : Int))) || (decide ((lN a0.Clocks) ≤ k1)))))] ?_
  refine bK h0 (fun h0 => ?_) (fun h0 => ?_)
  · refine bV aF 1 [(0, (.lp lo0p 0 0)), (6, (eI (3 : Int)))] ?_
    refine bM ?_
    obtain rfl := oI h0
    exact aH (aP (mO hO ⟨bF, cN, rfl, rfl⟩))
  refine bO ?_
  refine bL [(0, (.lp lo0p 0 0)), (1, (eI k1)), (2, (eI t2))] ?_
  refine aN ?_
  refine aN ?_
  refine aV aF 3 ?_
  refine bP 1 ?_
  obtain ⟨x2, hx3, h0⟩ := bB h0
  refine dB (UH t2 _ hx3) hO ?_
  intro H hO
  refine bH ?_
  refine bS [] [(20, (aK (!x2)))] ?_
  refine bK h0 (fun h0 => ?_) (fun h0 => ?_)
  · refine bV aF 1 [(0, (.lp lo0p 0 0)), (6, (eI (13 : Int)))] ?_
    refine bM ?_
    obtain rfl := oI h0
    exact aH (aP (mO hO ⟨bF, cN, rfl, rfl⟩))
  refine bO ?_
  refine bL [(0, (.lp lo0p 0 0)), (1, (eI k1)), (2, (eI t2))] ?_
  refine aN ?_
  refine aN ?_
  refine aV aF 9 ?_
  refine bP 4 ?_
  refine eF 0 lo0p 2 0 (.agg [(.msl 1 bF 0 (List.length a0.Clocks)), (.msl 1 cN 0 (List.length a0.aR))]) (.msl 1 bF 0 (List.length a0.Clocks)) [(.agg [(.msl 1 bF 0 (List.length a0.Clocks)), (.msl 1 cN 0 (List.length a0.aR))])] hO rfl ?_
  obtain ⟨c6, h0⟩ := bG h0
  refine iB 7 [0 ≤ k1 ∧ k1 < (lN a0.Clocks)] ⟨c6, trivial⟩ ?_
  refine eF 1 bF 1 (0 + Int.toNat k1) (eI (gD a0.Clocks k1)) (eI (gD a0.Clocks k1)) (List.map (eI) a0.Clocks) hO (cD c6) ?_
  refine bH ?_
  refine bS [] [(29, (aK (decide (t2 < (gD a0.Clocks k1)))))] ?_
  refine bK h0 (fun h0 => ?_) (fun h0 => ?_)
  · refine bV aF 1 [(0, (.lp lo0p 0 0)), (6, (eI (16 : Int)))] ?_
    refine bM ?_
    obtain rfl := oI h0
    exact aH (aP (mO hO ⟨bF, cN, rfl, rfl⟩))
  refine bO ?_
  refine bL [(0, (.lp lo0p 0 0)), (1, (eI k1)), (2, (eI t2))] ?_
  refine aN ?_
  refine aV aF 8 ?_
  refine bP 3 ?_
  refine eF 0 lo0p 2 0 (.agg [(.msl 1 bF 0 (List.length a0.Clocks)), (.msl 1 cN 0 (List.length a0.aR))]) (.msl 1 bF 0 (List.length a0.Clocks)) [(.agg [(.msl 1 bF 0 (List.length a0.Clocks)), (.msl 1 cN 0 (List.length a0.aR))])] hO rfl ?_
  obtain ⟨c8, h0⟩ := bG h0
  refine iB 7 [0 ≤ k1 ∧ k1 < (lN a0.Clocks)] ⟨c8, trivial⟩ ?_
  refine mQ 1 bF 1 (0 + Int.toNat k1) (eI (gD a0.Clocks k1)) (eI t2) (List.map (eI) a0.Clocks) [(lo0p, 2, [(.agg [(.msl 1 bF 0 (List.length a0.Clocks)), (.msl 1 cN 0 (List.length a0.aR))])]), (bF, 1, List.map (eI) (List.set a0.Clocks (Int.toNat k1) t2)), (cN, 1, List.map (eL aA) a0.aR)] hO (cD c8) (by simp only [List.set, mA]) ?_
  intro H hO
  refine cT ?_
  refine cO [(0, (.lp lo0p 0 0))] ?_
  replace hO : aL ⟨Fh, Fe, Fg⟩ H [(lo0p, 2, [(.agg [(.msl 1 bF 0 (List.length (List.set a0.Clocks (Int.toNat k1) t2))), (.msl 1 cN 0 (List.length a0.aR))])]), (bF, 1, List.map (eI) (List.set a0.Clocks (Int.toNat k1) t2)), (cN, 1, List.map (eL aA) a0.aR)] := by simpa only [List.length_set] using hO
  refine aH (aG (?_))
  refine aU aF 1 [] [(6, (eI (0 : Int)))] ?_
  refine bM ?_
  obtain rfl := oI h0
  exact aH (mO hO ⟨bF, cN, rfl, rfl⟩)

theorem BQ (lo0p : Nat) (bF : Nat) (cN : Nat) (a0 : bE) (r : Int) (h0 : mS a0 = some r) : qE Try.prog 18 [(.lp lo0p 0 0)] [(lo0p, 2, [(.agg [(.msl 1 bF 0 (List.length a0.Clocks)), (.msl 1 cN 0 (List.length a0.aR))])]), (bF, 1, List.map (eI) a0.Clocks), (cN, 1, List.map (eL aA) a0.aR)] (fun x L => x = (eI r) ∧ L = [(lo0p, 2, [(.agg [(.msl 1 bF 0 (List.length a0.Clocks)), (.msl 1 cN 0 (List.length a0.aR))])]), (bF, 1, List.map (eI) a0.Clocks), (cN, 1, List.map (eL aA) a0.aR)]) := by
  intro F H0 hO
  obtain ⟨Fh, Fe, Fg⟩ := F
  refine cF Try.func18 ?_
  unfold mS at h0
  refine aU aF 1 [] [] ?_
  refine aN ?_
  refine aV aF 7 ?_
  refine bP 3 ?_
  refine eF 0 lo0p 2 0 (.agg [(.msl 1 bF 0 (List.length a0.Clocks)), (.msl 1 cN 0 (List.length a0.aR))]) (.msl 1 bF 0 (List.length a0.Clocks)) [(.agg [(.msl 1 bF 0 (List.length a0.Clocks)), (.msl 1 cN 0 (List.length a0.aR))])] hO rfl ?_
  obtain ⟨c1, h0⟩ := bG h0
  refine iB 5 [0 ≤ (0 : Int) ∧ (0 : Int) < (lN a0.Clocks)] ⟨c1, trivial⟩ ?_
  refine eF 1 bF 1 (0 + Int.toNat (0 : Int)) (eI (gD a0.Clocks (0 : Int))) (eI (gD a0.Clocks (0 : Int))) (List.map (eI) a0.Clocks) hO (cD c1) ?_
  refine bH ?_
  refine bS [] [(3, (eI (gD a0.Clocks (0 : Int))))] ?_
  refine cK (fun T H => ∃ t3 : Int, Has T [(0, (.lp lo0p 0 0)), (3, (eI t3))] ∧ aL ⟨Fh, Fe, Fg⟩ H [(lo0p, 2, [(.agg [(.msl 1 bF 0 (List.length a0.Clocks)), (.msl 1 cN 0 (List.length a0.aR))])]), (bF, 1, List.map (eI) a0.Clocks), (cN, 1, List.map (eL aA) a0.aR)] ∧ oG a0 t3 = some r) ?_ ?_
  · clear hO h0
    rintro T H ⟨t3, hT, hO, h0⟩
    refine bC hT ?_
    clear hT
    unfold oG at h0
    refine aU aF 2 [3] [(2, (eI t3))] ?_
    refine bM ?_
    obtain rfl := oI h0
    exact aH (mO hO ⟨rfl, rfl⟩)
  refine aU aF 1 [] [(4, (eI (1 : Int)))] ?_
  refine bT 0 ?_
  refine cS [(0, (.lp lo0p 0 0)), (3, (eI (gD a0.Clocks (0 : Int)))), (4, (eI (1 : Int)))] ?_
  refine cG (fun T H => ∃ t3 : Int, ∃ i4 : Int, Has T [(0, (.lp lo0p 0 0)), (3, (eI t3)), (4, (eI i4))] ∧ aL ⟨Fh, Fe, Fg⟩ H [(lo0p, 2, [(.agg [(.msl 1 bF 0 (List.length a0.Clocks)), (.msl 1 cN 0 (List.length a0.aR))])]), (bF, 1, List.map (eI) a0.Clocks), (cN, 1, List.map (eL aA) a0.aR)] ∧ qZ a0 t3 i4 = some r) ?_ ⟨gD a0.Clocks (0 : Int), (1 : Int), aW, hO, h0⟩
  clear hO h0
  rintro T H ⟨t3, i4, hT, hO, h0⟩
  refine bC hT ?_
  clear hT
  unfold qZ at h0
  obtain ⟨rr0, hl0, h0⟩ := bB h0
  refine cZ (fun (s : Int × Int) T H => Has T [(0, (.lp lo0p 0 0)), (3, (eI s.1)), (4, (eI s.2))] ∧ aL ⟨Fh, Fe, Fg⟩ H [(lo0p, 2, [(.agg [(.msl 1 bF 0 (List.length a0.Clocks)), (.msl 1 cN 0 (List.length a0.aR))])]), (bF, 1, List.map (eI) a0.Clocks), (cN, 1, List.map (eL aA) a0.aR)]) hl0 ⟨aW, hO⟩ ?_
  clear hO
  rintro k0 s out1 T H ⟨hT, hO⟩ h1 ho0
  obtain ⟨t3, i4⟩ := s
  replace h1 : lY a0 t3 i4 = some out1 := h1
  try dsimp only at hT
  refine bC hT ?_
  clear hT
  unfold lY at h1
  refine aN ?_
  refine aN ?_
  refine aV aF 7 ?_
  refine bP 4 ?_
  refine eF 0 lo0p 2 0 (.agg [(.msl 1 bF 0 (List.length a0.Clocks)), (.msl 1 cN 0 (List.length a0.aR))]) (.msl 1 bF 0 (List.length a0.Clocks)) [(.agg [(.msl 1 bF 0 (List.length a0.Clocks)), (.msl 1 cN 0 (List.length a0.aR))])] hO rfl ?_
  refine bH ?_
  refine bS [] [(17, (aK (decide (i4 < (lN a0.Clocks)))))] ?_
  refine bK h1 (fun h1 => ?_) (fun h1 => ?_)
  · refine bO ?_
    refine bL [(0, (.lp lo0p 0 0)), (3, (eI t3)), (4, (eI i4))] ?_
    refine cK (fun T H => ∃ t3 : Int, Has T [(0, (.lp lo0p 0 0)), (3, (eI t3)), (4, (eI i4))] ∧ aL ⟨Fh, Fe, Fg⟩ H [(lo0p, 2, [(.agg [(.msl 1 bF 0 (List.length a0.Clocks)), (.msl 1 cN 0 (List.length a0.aR))])]), (bF, 1, List.map (eI) a0.Clocks), (cN, 1, List.map (eL aA) a0.aR)] ∧ oF a0 t3 i4 = some out1) ?_ ?_
    · clear hO h1
      rintro T H ⟨t3, hT, hO, h1⟩
      refine bC hT ?_
      clear hT
      unfold oF at h1
      refine aV aF 3 ?_
      refine bH ?_
      exact aH (aG (⟨rfl, _, (oI h1).symm, aW, hO⟩))
    refine bT 1 ?_
    refine aN ?_
    refine aV aF 9 ?_
    refine bP 3 ?_
    refine eF 0 lo0p 2 0 (.agg [(.msl 1 bF 0 (List.length a0.Clocks)), (.msl 1 cN 0 (List.length a0.aR))]) (.msl 1 bF 0 (List.length a0.Clocks)) [(.agg [(.msl 1 bF 0 (List.length a0.Clocks)), (.msl 1 cN 0 (List.length a0.aR))])] hO rfl ?_
    obtain ⟨c3, h1⟩ := bG h1
    refine iB 6 [0 ≤ i4 ∧ i4 < (lN a0.Clocks)] ⟨c3, trivial⟩ ?_
    refine eF 1 bF 1 (0 + Int.toNat i4) (eI (gD a0.Clocks i4)) (eI (gD a0.Clocks i4)) (List.map (eI) a0.Clocks) hO (cD c3) ?_
    refine bH ?_
    refine bS [] [(28, (aK (decide ((gD a0.Clocks i4) < t3))))] ?_
    refine bK h1 (fun h1 => ?_) (fun h1 => ?_)
    · refine aV aF 8 ?_
      refine bP 3 ?_
      refine eF 0 lo0p 2 0 (.agg [(.msl 1 bF 0 (List.length a0.Clocks)), (.msl 1 cN 0 (List.length a0.aR))]) (.msl 1 bF 0 (List.length a0.Clocks)) [(.agg [(.msl 1 bF 0 (List.length a0.Clocks)), (.msl 1 cN 0 (List.length a0.aR))])] hO rfl ?_
      obtain ⟨c5, h1⟩ := bG h1
      refine iB 6 [0 ≤ i4 ∧ i4 < (lN a0.Clocks)] ⟨c5, trivial⟩ ?_
      refine eF 1 bF 1 (0 + Int.toNat i4) (eI (gD a0.Clocks i4)) (eI (gD a0.Clocks i4)) (List.map (eI) a0.Clocks) hO (cD c5) ?_
      refine bH ?_
      exact aH (aX (aG (⟨rfl, _, aW, hO, h1⟩)))
    refine bO ?_
    exact aH (aX (aG (⟨rfl, _, aW, hO, h1⟩)))
  refine cX 0 ?_
  obtain rfl := oI h1
  obtain rfl : _ = rr0 := ho0
  replace h0 : oG a0 t3 = some r := h0
  exact aH (aS (aS (bQ (aG (⟨rfl, _, aW, hO, h0⟩)))))

theorem AH (lo0p : Nat) (bF : Nat) (cN : Nat) (a0 : bE) (r : ((List (List aB)) × bE)) (h0 : kP a0 = some r) : qE Try.prog 17 [(.lp lo0p 0 0)] [(lo0p, 2, [(.agg [(.msl 1 bF 0 (List.length a0.Clocks)), (.msl 1 cN 0 (List.length a0.aR))])]), (bF, 1, List.map (eI) a0.Clocks), (cN, 1, List.map (eL aA) a0.aR)] (fun x L => ∃ tA : Nat, ∃ FH : Nat, x = (eL (eL aA) r.1) ∧ L = [(lo0p, 2, [(.agg [(.msl 1 tA 0 (List.length r.2.Clocks)), (.msl 1 FH 0 (List.length r.2.aR))])]), (tA, 1, List.map (eI) r.2.Clocks), (FH, 1, List.map (eL aA) r.2.aR)]) := by
  intro F H0 hO
  obtain ⟨Fh, Fe, Fg⟩ := F
  refine cF Try.func17 ?_
  unfold kP at h0
  refine aU aF 1 [] [] ?_
  refine aN ?_
  refine aV aF 3 ?_
  refine bP 1 ?_
  obtain ⟨x1, hx2, h0⟩ := bB h0
  refine wL [] [0, 1, 2] (BQ lo0p bF cN a0 _ hx2) hO ?_
  intro r3 L4 H hP5 hO
  obtain ⟨rfl, rfl⟩ := hP5
  replace hO : aL ⟨Fh, Fe, Fg⟩ H [(lo0p, 2, [(.agg [(.msl 1 bF 0 (List.length a0.Clocks)), (.msl 1 cN 0 (List.length a0.aR))])]), (bF, 1, List.map (eI) a0.Clocks), (cN, 1, List.map (eL aA) a0.aR)] := hO
  refine bH ?_
  refine bS [] [(3, (eI x1))] ?_
  refine aN ?_
  refine aV aF 2 ?_
  refine kM [] 1 ?_
  refine bH ?_
  refine bS [] [(4, (.sl true 0 (fun _ => .bad)))] ?_
  refine cK (fun T H => ∃ a0 : bE, ∃ out4 : List (List aB), ∃ lo6 : Nat, ∃ lo7 : Nat, ∃ lo8 : Nat, Has T [(0, (.lp lo0p 0 0)), (4, (.msl 1 lo8 0 (List.length out4)))] ∧ aL ⟨Fh, Fe, Fg⟩ H [(lo0p, 2, [(.agg [(.msl 1 lo6 0 (List.length a0.Clocks)), (.msl 1 lo7 0 (List.length a0.aR))])]), (lo6, 1, List.map (eI) a0.Clocks), (lo7, 1, List.map (eL aA) a0.aR), (lo8, 1, List.map (eL aA) out4)] ∧ mZ a0 out4 = some r) ?_ ?_
  · clear hO h0
    rintro T H ⟨a0, out4, lo6, lo7, lo8, hT, hO, h0⟩
    refine bC hT ?_
    clear hT
    unfold mZ at h0
    refine aU aF 2 [4] [(2, (.msl 1 lo8 0 (List.length out4)))] ?_
    refine bM ?_
    refine cO [(0, (.lp lo0p 0 0)), (2, (.msl 1 lo8 0 (List.length out4)))] ?_
    refine uL (en := (eL aA)) out4 1 3 2 1 lo8 (List.length out4) hO (by kernel_rfl) (by kernel_rfl) (by kernel_rfl) (L' := [(lo0p, 2, [(.agg [(.msl 1 lo6 0 (List.length a0.Clocks)), (.msl 1 lo7 0 (List.length a0.aR))])]), (lo6, 1, List.map (eI) a0.Clocks), (lo7, 1, List.map (eL aA) a0.aR)]) (by kernel_rfl) ?_
    intro H9 hO
    obtain rfl := oI h0
    exact aH (mO hO ⟨lo6, lo7, rfl, rfl⟩)
  refine aU aF 1 [] [(5, (eI (0 : Int)))] ?_
  refine bT 0 ?_
  refine cS [(0, (.lp lo0p 0 0)), (3, (eI x1)), (4, (.sl true 0 (fun _ => .bad))), (5, (eI (0 : Int)))] ?_
  refine vJ (el := (fun _ => .bad)) 2 4 1 hO (by kernel_rfl) ?_
  intro lo61 H62 hO
  refine cG (fun T H => ∃ a0 : bE, ∃ t3 : Int, ∃ out4 : List (List aB), ∃ k5 : Int, ∃ lo13 : Nat, ∃ lo14 : Nat, ∃ lo15 : Nat, Has T [(0, (.lp lo0p 0 0)), (3, (eI t3)), (4, (.msl 1 lo15 0 (List.length out4))), (5, (eI k5))] ∧ aL ⟨Fh, Fe, Fg⟩ H [(lo0p, 2, [(.agg [(.msl 1 lo13 0 (List.length a0.Clocks)), (.msl 1 lo14 0 (List.length a0.aR))])]), (lo13, 1, List.map (eI) a0.Clocks), (lo14, 1, List.map (eL aA) a0.aR), (lo15, 1, List.map (eL aA) out4)] ∧ pU a0 t3 out4 k5 = some r) ?_ ⟨a0, x1, ([] : List (List aB)), (0 : Int), bF, cN, lo61, aW, hO, h0⟩
  clear hO h0
  rintro T H ⟨a0, t3, out4, k5, lo13, lo14, lo15, hT, hO, h0⟩
  refine bC hT ?_
  clear hT
  unfold pU at h0
  obtain ⟨rr0, hl0, h0⟩ := bB h0
  refine cZ (fun (s : bE × List (List aB) × Int) T H => ∃ lo13 : Nat, ∃ lo14 : Nat, ∃ lo15 : Nat, Has T [(0, (.lp lo0p 0 0)), (3, (eI t3)), (4, (.msl 1 lo15 0 (List.length s.2.1))), (5, (eI s.2.2))] ∧ aL ⟨Fh, Fe, Fg⟩ H [(lo0p, 2, [(.agg [(.msl 1 lo13 0 (List.length s.1.Clocks)), (.msl 1 lo14 0 (List.length s.1.aR))])]), (lo13, 1, List.map (eI) s.1.Clocks), (lo14, 1, List.map (eL aA) s.1.aR), (lo15, 1, List.map (eL aA) s.2.1)]) hl0 ⟨lo13, lo14, lo15, aW, hO⟩ ?_
  clear hO
  rintro k0 s out1 T H ⟨lo13, lo14, lo15, hT, hO⟩ h1 ho0
  obtain ⟨a0, out4, k5⟩ := s
  replace h1 : gT t3 a0 out4 k5 = some out1 := h1
  try dsimp only at hT
  refine bC hT ?_
  clear hT
  unfold gT at h1
  refine aN ?_
  refine aN ?_
  refine aV aF 7 ?_
  refine bP 4 ?_
  refine eF 0 lo0p 2 0 (.agg [(.msl 1 lo13 0 (List.length a0.Clocks)), (.msl 1 lo14 0 (List.length a0.aR))]) (.msl 1 lo14 0 (List.length a0.aR)) [(.agg [(.msl 1 lo13 0 (List.length a0.Clocks)), (.msl 1 lo14 0 (List.length a0.aR))])] hO rfl ?_
  refine bH ?_
  refine bS [] [(18, (aK (decide (k5 < (lN a0.aR)))))] ?_
  refine bK h1 (fun h1 => ?_) (fun h1 => ?_)
  · refine bO ?_
    refine bL [(0, (.lp lo0p 0 0)), (3, (eI t3)), (4, (.msl 1 lo15 0 (List.length out4))), (5, (eI k5))] ?_
    refine cK (fun T H => ∃ a0 : bE, ∃ out4 : List (List aB), ∃ lo17 : Nat, ∃ lo18 : Nat, ∃ lo19 : Nat, Has T [(0, (.lp lo0p 0 0)), (3, (eI t3)), (4, (.msl 1 lo19 0 (List.length out4))), (5, (eI k5))] ∧ aL ⟨Fh, Fe, Fg⟩ H [(lo0p, 2, [(.agg [(.msl 1 lo17 0 (List.length a0.Clocks)), (.msl 1 lo18 0 (List.length a0.aR))])]), (lo17, 1, List.map (eI) a0.Clocks), (lo18, 1, List.map (eL aA) a0.aR), (lo19, 1, List.map (eL aA) out4)] ∧ pW a0 t3 out4 k5 = some out1) ?_ ?_
    · clear hO h1
      rintro T H ⟨a0, out4, lo17, lo18, lo19, hT, hO, h1⟩
      refine bC hT ?_
      clear hT
      unfold pW at h1
      refine aV aF 3 ?_
      refine bH ?_
      exact aH (aG (⟨rfl, _, (oI h1).symm, _, _, _, aW, hO⟩))
    refine bT 1 ?_
    refine aN ?_
    refine aV aF 2 ?_
    refine kM [] 3 ?_
    refine bH ?_
    refine bS [] [(6, (.sl true 0 (fun _ => .bad)))] ?_
    refine aN ?_
    refine aV aF 2 ?_
    refine kM [] 3 ?_
    refine bH ?_
    refine bS [] [(7, (.sl true 0 (fun _ => .bad)))] ?_
    refine cK (fun T H => ∃ a0 : bE, ∃ out4 : List (List aB), ∃ bZ : List aB, ∃ cB : List aB, ∃ lo20 : Nat, ∃ lo21 : Nat, ∃ lo22 : Nat, ∃ lo23 : Nat, ∃ lo24 : Nat, Has T [(0, (.lp lo0p 0 0)), (3, (eI t3)), (4, (.msl 1 lo22 0 (List.length out4))), (5, (eI k5)), (6, (.msl 3 lo23 0 (List.length bZ))), (7, (.msl 3 lo24 0 (List.length cB)))] ∧ aL ⟨Fh, Fe, Fg⟩ H [(lo0p, 2, [(.agg [(.msl 1 lo20 0 (List.length a0.Clocks)), (.msl 1 lo21 0 (List.length a0.aR))])]), (lo20, 1, List.map (eI) a0.Clocks), (lo21, 1, List.map (eL aA) a0.aR), (lo22, 1, List.map (eL aA) out4), (lo23, 3, List.map aA bZ), (lo24, 3, List.map aA cB)] ∧ mW a0 t3 out4 k5 bZ cB = some out1) ?_ ?_
    · clear hO h1
      rintro T H ⟨a0, out4, bZ, cB, lo20, lo21, lo22, lo23, lo24, hT, hO, h1⟩
      refine bC hT ?_
      clear hT
      unfold mW at h1
      refine aN ?_
      refine aV aF 8 ?_
      refine uI (e := aA) cB 5 7 3 lo24 (List.length cB) [(lo0p, 2, [(.agg [(.msl 1 lo20 0 (List.length a0.Clocks)), (.msl 1 lo21 0 (List.length a0.aR))])]), (lo20, 1, List.map (eI) a0.Clocks), (lo21, 1, List.map (eL aA) a0.aR), (lo22, 1, List.map (eL aA) out4), (lo23, 3, List.map aA bZ)] (by kernel_rfl) hO (by kernel_rfl) (by kernel_rfl) (by kernel_rfl) (by kernel_rfl) ?_
      intro H hO
      refine bP 3 ?_
      refine eF 0 lo0p 2 0 (.agg [(.msl 1 lo20 0 (List.length a0.Clocks)), (.msl 1 lo21 0 (List.length a0.aR))]) (.msl 1 lo21 0 (List.length a0.aR)) [(.agg [(.msl 1 lo20 0 (List.length a0.Clocks)), (.msl 1 lo21 0 (List.length a0.aR))])] hO rfl ?_
      obtain ⟨c26, h1⟩ := bG h1
      refine iB 7 [0 ≤ k5 ∧ k5 < (lN a0.aR)] ⟨c26, trivial⟩ ?_
      refine mQ 2 lo21 1 (0 + Int.toNat k5) (eL aA (gD a0.aR k5)) (eL aA cB) (List.map (eL aA) a0.aR) [(lo0p, 2, [(.agg [(.msl 1 lo20 0 (List.length a0.Clocks)), (.msl 1 lo21 0 (List.length a0.aR))])]), (lo20, 1, List.map (eI) a0.Clocks), (lo21, 1, List.map (eL aA) (List.set a0.aR (Int.toNat k5) cB)), (lo22, 1, List.map (eL aA) out4), (lo23, 3, List.map aA bZ)] hO (cD c26) (by simp only [List.set, mA]) ?_
      intro H hO
      refine cT ?_
      replace hO : aL ⟨Fh, Fe, Fg⟩ H [(lo0p, 2, [(.agg [(.msl 1 lo20 0 (List.length a0.Clocks)), (.msl 1 lo21 0 (List.length (List.set a0.aR (Int.toNat k5) cB)))])]), (lo20, 1, List.map (eI) a0.Clocks), (lo21, 1, List.map (eL aA) (List.set a0.aR (Int.toNat k5) cB)), (lo22, 1, List.map (eL aA) out4), (lo23, 3, List.map aA bZ)] := by simpa only [List.length_set] using hO
      refine bS [7] [] ?_
      refine aV aF 5 ?_
      refine uI (e := aA) bZ 4 6 3 lo23 (List.length bZ) [(lo0p, 2, [(.agg [(.msl 1 lo20 0 (List.length a0.Clocks)), (.msl 1 lo21 0 (List.length (List.set a0.aR (Int.toNat k5) cB)))])]), (lo20, 1, List.map (eI) a0.Clocks), (lo21, 1, List.map (eL aA) (List.set a0.aR (Int.toNat k5) cB)), (lo22, 1, List.map (eL aA) out4)] (by kernel_rfl) hO (by kernel_rfl) (by kernel_rfl) (by kernel_rfl) (by kernel_rfl) ?_
      intro H hO
      refine bP 2 ?_
      refine kM [(eL aA bZ)] 1 ?_
      obtain ⟨c28, h1⟩ := bG h1
      refine wD (eL aA) out4 ([bZ]) 3 lo22 1 24 (dA [(eL aA bZ)]) (fun lo27 => [(lo0p, 2, [(.agg [(.msl 1 lo20 0 (List.length a0.Clocks)), (.msl 1 lo21 0 (List.length (List.set a0.aR (Int.toNat k5) cB)))])]), (lo20, 1, List.map (eI) a0.Clocks), (lo21, 1, List.map (eL aA) (List.set a0.aR (Int.toNat k5) cB)), (lo27, 1, List.map (eL aA) (out4 ++ ([bZ])))]) hO (by kernel_rfl) c28 ?_
      intro lo27 H hO
      refine bH ?_
      exact aH (aX (aG (⟨rfl, _, _, _, _, _, aW, hO, h1⟩)))
    refine aU aF 1 [] [(8, (eI (0 : Int)))] ?_
    refine bT 2 ?_
    refine cS [(0, (.lp lo0p 0 0)), (3, (eI t3)), (4, (.msl 1 lo15 0 (List.length out4))), (5, (eI k5)), (6, (.sl true 0 (fun _ => .bad))), (7, (.sl true 0 (fun _ => .bad))), (8, (eI (0 : Int)))] ?_
    refine vJ (el := (fun _ => .bad)) 4 6 3 hO (by kernel_rfl) ?_
    intro lo57 H58 hO
    refine vJ (el := (fun _ => .bad)) 5 7 3 hO (by kernel_rfl) ?_
    intro lo59 H60 hO
    refine cG (fun T H => ∃ a0 : bE, ∃ out4 : List (List aB), ∃ bZ : List aB, ∃ cB : List aB, ∃ i8 : Int, ∃ lo34 : Nat, ∃ lo35 : Nat, ∃ lo36 : Nat, ∃ lo37 : Nat, ∃ lo38 : Nat, Has T [(0, (.lp lo0p 0 0)), (3, (eI t3)), (4, (.msl 1 lo36 0 (List.length out4))), (5, (eI k5)), (6, (.msl 3 lo37 0 (List.length bZ))), (7, (.msl 3 lo38 0 (List.length cB))), (8, (eI i8))] ∧ aL ⟨Fh, Fe, Fg⟩ H [(lo0p, 2, [(.agg [(.msl 1 lo34 0 (List.length a0.Clocks)), (.msl 1 lo35 0 (List.length a0.aR))])]), (lo34, 1, List.map (eI) a0.Clocks), (lo35, 1, List.map (eL aA) a0.aR), (lo36, 1, List.map (eL aA) out4), (lo37, 3, List.map aA bZ), (lo38, 3, List.map aA cB)] ∧ pY a0 t3 out4 k5 bZ cB i8 = some out1) ?_ ⟨a0, out4, ([] : List aB), ([] : List aB), (0 : Int), lo13, lo14, lo15, lo57, lo59, aW, hO, h1⟩
    clear hO h1
    rintro T H ⟨a0, out4, bZ, cB, i8, lo34, lo35, lo36, lo37, lo38, hT, hO, h1⟩
    refine bC hT ?_
    clear hT
    unfold pY at h1
    obtain ⟨rr1, hl1, h1⟩ := bB h1
    refine cZ (fun (s : bE × List (List aB) × List aB × List aB × Int) T H => ∃ lo34 : Nat, ∃ lo35 : Nat, ∃ lo36 : Nat, ∃ lo37 : Nat, ∃ lo38 : Nat, Has T [(0, (.lp lo0p 0 0)), (3, (eI t3)), (4, (.msl 1 lo36 0 (List.length s.2.1))), (5, (eI k5)), (6, (.msl 3 lo37 0 (List.length s.2.2.1))), (7, (.msl 3 lo38 0 (List.length s.2.2.2.1))), (8, (eI s.2.2.2.2))] ∧ aL ⟨Fh, Fe, Fg⟩ H [(lo0p, 2, [(.agg [(.msl 1 lo34 0 (List.length s.1.Clocks)), (.msl 1 lo35 0 (List.length s.1.aR))])]), (lo34, 1, List.map (eI) s.1.Clocks), (lo35, 1, List.map (eL aA) s.1.aR), (lo36, 1, List.map (eL aA) s.2.1), (lo37, 3, List.map aA s.2.2.1), (lo38, 3, List.map aA s.2.2.2.1)]) hl1 ⟨lo34, lo35, lo36, lo37, lo38, aW, hO⟩ ?_
    clear hO
    rintro k1 s out2 T H ⟨lo34, lo35, lo36, lo37, lo38, hT, hO⟩ h2 ho1
    obtain ⟨a0, out4, bZ, cB, i8⟩ := s
    replace h2 : gS t3 k5 a0 out4 bZ cB i8 = some out2 := h2
    try dsimp only at hT
    refine bC hT ?_
    clear hT
    unfold gS at h2
    refine aN ?_
    refine aN ?_
    refine aV aF 10 ?_
    refine bP 4 ?_
    refine eF 0 lo0p 2 0 (.agg [(.msl 1 lo34 0 (List.length a0.Clocks)), (.msl 1 lo35 0 (List.length a0.aR))]) (.msl 1 lo35 0 (List.length a0.aR)) [(.agg [(.msl 1 lo34 0 (List.length a0.Clocks)), (.msl 1 lo35 0 (List.length a0.aR))])] hO rfl ?_
    obtain ⟨c39, h2⟩ := bG h2
    refine iB 7 [0 ≤ k5 ∧ k5 < (lN a0.aR)] ⟨c39, trivial⟩ ?_
    refine eF 2 lo35 1 (0 + Int.toNat k5) (eL aA (gD a0.aR k5)) (eL aA (gD a0.aR k5)) (List.map (eL aA) a0.aR) hO (cD c39) ?_
    refine bH ?_
    refine bS [] [(32, (aK (decide (i8 < (lN (gD a0.aR k5))))))] ?_
    refine bK h2 (fun h2 => ?_) (fun h2 => ?_)
    · refine bO ?_
      refine bL [(0, (.lp lo0p 0 0)), (3, (eI t3)), (4, (.msl 1 lo36 0 (List.length out4))), (5, (eI k5)), (6, (.msl 3 lo37 0 (List.length bZ))), (7, (.msl 3 lo38 0 (List.length cB))), (8, (eI i8))] ?_
      refine cK (fun T H => ∃ a0 : bE, ∃ out4 : List (List aB), ∃ bZ : List aB, ∃ cB : List aB, ∃ lo41 : Nat, ∃ lo42 : Nat, ∃ lo43 : Nat, ∃ lo44 : Nat, ∃ lo45 : Nat, Has T [(0, (.lp lo0p 0 0)), (3, (eI t3)), (4, (.msl 1 lo43 0 (List.length out4))), (5, (eI k5)), (6, (.msl 3 lo44 0 (List.length bZ))), (7, (.msl 3 lo45 0 (List.length cB))), (8, (eI i8))] ∧ aL ⟨Fh, Fe, Fg⟩ H [(lo0p, 2, [(.agg [(.msl 1 lo41 0 (List.length a0.Clocks)), (.msl 1 lo42 0 (List.length a0.aR))])]), (lo41, 1, List.map (eI) a0.Clocks), (lo42, 1, List.map (eL aA) a0.aR), (lo43, 1, List.map (eL aA) out4), (lo44, 3, List.map aA bZ), (lo45, 3, List.map aA cB)] ∧ kJ a0 t3 out4 k5 bZ cB i8 = some out2) ?_ ?_
      · clear hO h2
        rintro T H ⟨a0, out4, bZ, cB, lo41, lo42, lo43, lo44, lo45, hT, hO, h2⟩
        refine bC hT ?_
        clear hT
        unfold kJ at h2
        refine aV aF 3 ?_
        refine bH ?_
        exact aH (aG (⟨rfl, _, (oI h2).symm, _, _, _, _, _, aW, hO⟩))
      refine bT 3 ?_
      refine aN ?_
      refine aV aF 13 ?_
      refine bP 3 ?_
      refine eF 0 lo0p 2 0 (.agg [(.msl 1 lo34 0 (List.length a0.Clocks)), (.msl 1 lo35 0 (List.length a0.aR))]) (.msl 1 lo35 0 (List.length a0.aR)) [(.agg [(.msl 1 lo34 0 (List.length a0.Clocks)), (.msl 1 lo35 0 (List.length a0.aR))])] hO rfl ?_
      obtain ⟨c46, h2⟩ := bG h2
      refine iB 6 [0 ≤ k5 ∧ k5 < (lN a0.aR)] ⟨c46, trivial⟩ ?_
      refine eF 2 lo35 1 (0 + Int.toNat k5) (eL aA (gD a0.aR k5)) (eL aA (gD a0.aR k5)) (List.map (eL aA) a0.aR) hO (cD c46) ?_
      obtain ⟨c47, h2⟩ := bG h2
      refine oH [0 ≤ i8 ∧ i8 < (lN (gD a0.aR k5))] ⟨c47, trivial⟩ ?_
      refine bS [] [(47, (aK (decide (((gD (gD a0.aR k5) i8).At) < t3))))] ?_
      refine bK h2 (fun h2 => ?_) (fun h2 => ?_)
      · refine aV aF 14 ?_
        refine bP 4 ?_
        refine eF 0 lo0p 2 0 (.agg [(.msl 1 lo34 0 (List.length a0.Clocks)), (.msl 1 lo35 0 (List.length a0.aR))]) (.msl 1 lo35 0 (List.length a0.aR)) [(.agg [(.msl 1 lo34 0 (List.length a0.Clocks)), (.msl 1 lo35 0 (List.length a0.aR))])] hO rfl ?_
        obtain ⟨c49, h2⟩ := bG h2
        refine iB 7 [0 ≤ k5 ∧ k5 < (lN a0.aR)] ⟨c49, trivial⟩ ?_
        refine eF 2 lo35 1 (0 + Int.toNat k5) (eL aA (gD a0.aR k5)) (eL aA (gD a0.aR k5)) (List.map (eL aA) a0.aR) hO (cD c49) ?_
        obtain ⟨c50, h2⟩ := bG h2
        refine iB 11 [0 ≤ i8 ∧ i8 < (lN (gD a0.aR k5))] ⟨c50, trivial⟩ ?_
        refine kM [(aA (gD (gD a0.aR k5) i8))] 3 ?_
        obtain ⟨c52, h2⟩ := bG h2
        refine wD aA bZ ([gD (gD a0.aR k5) i8]) 4 lo37 3 40 (dA [(aA (gD (gD a0.aR k5) i8))]) (fun lo51 => [(lo0p, 2, [(.agg [(.msl 1 lo34 0 (List.length a0.Clocks)), (.msl 1 lo35 0 (List.length a0.aR))])]), (lo34, 1, List.map (eI) a0.Clocks), (lo35, 1, List.map (eL aA) a0.aR), (lo36, 1, List.map (eL aA) out4), (lo51, 3, List.map aA (bZ ++ ([gD (gD a0.aR k5) i8]))), (lo38, 3, List.map aA cB)]) hO (by kernel_rfl) c52 ?_
        intro lo51 H hO
        refine bH ?_
        exact aH (aX (aG (⟨rfl, _, _, _, _, _, _, _, _, _, aW, hO, h2⟩)))
      refine aV aF 14 ?_
      refine bP 4 ?_
      refine eF 0 lo0p 2 0 (.agg [(.msl 1 lo34 0 (List.length a0.Clocks)), (.msl 1 lo35 0 (List.length a0.aR))]) (.msl 1 lo35 0 (List.length a0.aR)) [(.agg [(.msl 1 lo34 0 (List.length a0.Clocks)), (.msl 1 lo35 0 (List.length a0.aR))])] hO rfl ?_
      obtain ⟨c53, h2⟩ := bG h2
      refine iB 7 [0 ≤ k5 ∧ k5 < (lN a0.aR)] ⟨c53, trivial⟩ ?_
      refine eF 2 lo35 1 (0 + Int.toNat k5) (eL aA (gD a0.aR k5)) (eL aA (gD a0.aR k5)) (List.map (eL aA) a0.aR) hO (cD c53) ?_
      obtain ⟨c54, h2⟩ := bG h2
      refine iB 11 [0 ≤ i8 ∧ i8 < (lN (gD a0.aR k5))] ⟨c54, trivial⟩ ?_
      refine kM [(aA (gD (gD a0.aR k5) i8))] 3 ?_
      obtain ⟨c56, h2⟩ := bG h2
      refine wD aA cB ([gD (gD a0.aR k5) i8]) 5 lo38 3 40 (dA [(aA (gD (gD a0.aR k5) i8))]) (fun lo55 => [(lo0p, 2, [(.agg [(.msl 1 lo34 0 (List.length a0.Clocks)), (.msl 1 lo35 0 (List.length a0.aR))])]), (lo34, 1, List.map (eI) a0.Clocks), (lo35, 1, List.map (eL aA) a0.aR), (lo36, 1, List.map (eL aA) out4), (lo37, 3, List.map aA bZ), (lo55, 3, List.map aA (cB ++ ([gD (gD a0.aR k5) i8])))]) hO (by kernel_rfl) c56 ?_
      intro lo55 H hO
      refine bH ?_
      exact aH (aX (aG (⟨rfl, _, _, _, _, _, _, _, _, _, aW, hO, h2⟩)))
    refine cX 2 ?_
    obtain rfl := oI h2
    obtain rfl : _ = rr1 := ho1
    replace h1 : mW a0 t3 out4 k5 bZ cB = some out1 := h1
    exact aH (aS (aS (bQ (aG (⟨rfl, _, _, _, _, _, _, _, _, _, aW, hO, h1⟩)))))
  refine cX 0 ?_
  obtain rfl := oI h1
  obtain rfl : _ = rr0 := ho0
  replace h0 : mZ a0 out4 = some r := h0
  exact aH (aS (aS (bQ (aG (⟨rfl, _, _, _, _, _, aW, hO, h0⟩)))))

theorem VQ (a0 : (List aB)) (b1 : (List aB)) (r : Bool) (h0 : xP a0 b1 = some r) : cE Try.prog 21 [(eL aA a0), (eL aA b1)] (aK r) := by
  intro H0
  refine cF Try.func21 ?_
  have hO := aL.start H0
  unfold xP at h0
  refine aU aF 1 [] [] ?_
  refine aN ?_
  refine aU aF 5 [] [(10, (aK (!decide ((lN a0) = (lN b1)))))] ?_
  refine bK h0 (fun h0 => ?_) (fun h0 => ?_)
  · refine bV aF 1 [(4, (aK false))] ?_
    refine bM ?_
    obtain rfl := oI h0
    exact aH (aP (Q_r hO))
  refine bO ?_
  refine bL [(0, (eL aA a0)), (1, (eL aA b1))] ?_
  refine cK (fun T H => Has T [] ∧ aL ⟨H0, [], []⟩ H [] ∧ vB  = some r) ?_ ?_
  · clear hO h0
    rintro T H ⟨hT, hO, h0⟩
    refine bC hT ?_
    clear hT
    unfold vB at h0
    refine bV aF 1 [(4, (aK true))] ?_
    refine bM ?_
    obtain rfl := oI h0
    exact aH (Q_r hO)
  refine aU aF 1 [] [(5, (eI (0 : Int)))] ?_
  refine bT 0 ?_
  refine cS [(0, (eL aA a0)), (1, (eL aA b1)), (5, (eI (0 : Int)))] ?_
  refine cG (fun T H => ∃ i5 : Int, Has T [(0, (eL aA a0)), (1, (eL aA b1)), (5, (eI i5))] ∧ aL ⟨H0, [], []⟩ H [] ∧ zH a0 b1 i5 = some r) ?_ ⟨(0 : Int), aW, hO, h0⟩
  clear hO h0
  rintro T H ⟨i5, hT, hO, h0⟩
  refine bC hT ?_
  clear hT
  unfold zH at h0
  obtain ⟨rr0, hl0, h0⟩ := bB h0
  refine cZ (fun (s : Int) T H => Has T [(0, (eL aA a0)), (1, (eL aA b1)), (5, (eI s))] ∧ aL ⟨H0, [], []⟩ H []) hl0 ⟨aW, hO⟩ ?_
  clear hO
  rintro k0 s out1 T H ⟨hT, hO⟩ h1 ho0
  obtain ⟨i5, rfl⟩ : ∃ x, x = s := ⟨_, rfl⟩
  replace h1 : sO a0 b1 i5 = some out1 := h1
  refine bC hT ?_
  clear hT
  unfold sO at h1
  refine aN ?_
  refine aU aF 4 [] [(14, (aK (decide (i5 < (lN a0)))))] ?_
  refine bK h1 (fun h1 => ?_) (fun h1 => ?_)
  · refine bO ?_
    refine bL [(0, (eL aA a0)), (1, (eL aA b1)), (5, (eI i5))] ?_
    refine aN ?_
    refine bT 1 ?_
    refine aN ?_
    obtain ⟨c3, h1⟩ := bG h1
    obtain ⟨c4, h1⟩ := bG h1
    obtain ⟨c5, h1⟩ := bG h1
    obtain ⟨c6, h1⟩ := bG h1
    obtain ⟨c7, h1⟩ := bG h1
    obtain ⟨c8, h1⟩ := bG h1
    obtain ⟨x9, hx10, h1⟩ := bB h1
    refine fB (fC [21, 26, 33, 38, 46, 51]) aF 38 ?_
    refine yR (K := fun T H => Has (lift T) [(0, (eL aA a0)), (1, (eL aA b1)), (5, (eI i5)), (54, (aK (((!decide (((gD a0 i5).At) = ((gD b1 i5).At))) || (!decide (((gD a0 i5).Net) = ((gD b1 i5).Net)))) || (!x9))))] ∧ aL ⟨H0, [], []⟩ H []) ?_ ?_
    · refine cW 12 [0 ≤ i5 ∧ i5 < (lN a0), 0 ≤ i5 ∧ i5 < (lN b1)] ⟨c3, c4, trivial⟩ ?_
      refine uB (t := 28) (e := !decide (((gD a0 i5).At) = ((gD b1 i5).At))) (by kernel_rfl) (fun hg11 => ?_) (fun hg11 => ?_)
      · refine jB ?_
        exact ⟨⟨[(0, (eL aA a0)), (1, (eL aA b1)), (5, (eI i5)), (54, (aK true))], by kernel_rfl, rfl, ⟨bA.refl _, bA.refl _, bA.refl _, bA.eq (congrArg aK (AY (AY hg11 rfl) rfl).symm), trivial⟩⟩, hO⟩
      refine cW 25 [0 ≤ i5 ∧ i5 < (lN a0), 0 ≤ i5 ∧ i5 < (lN b1)] ⟨(c5 (CC hg11)), (c6 (CC hg11)), trivial⟩ ?_
      refine uB (t := 41) (e := !decide (((gD a0 i5).Net) = ((gD b1 i5).Net))) (by kernel_rfl) (fun hg12 => ?_) (fun hg12 => ?_)
      · refine jB ?_
        exact ⟨⟨[(0, (eL aA a0)), (1, (eL aA b1)), (5, (eI i5)), (54, (aK true))], by kernel_rfl, rfl, ⟨bA.refl _, bA.refl _, bA.refl _, bA.eq (congrArg aK (AY (AY hg11 hg12) rfl).symm), trivial⟩⟩, hO⟩
      refine cW 35 [0 ≤ i5 ∧ i5 < (lN a0), 0 ≤ i5 ∧ i5 < (lN b1)] ⟨(c7 (CC (AY hg11 hg12))), (c8 (CC (AY hg11 hg12))), trivial⟩ ?_
      refine BT 43 [(eL aJ ((gD a0 i5).Row)), (eL aJ ((gD b1 i5).Row))] (aK x9) (by kernel_rfl) (by kernel_rfl) (ET ((gD a0 i5).Row) ((gD b1 i5).Row) _ (qW hx10 (CC (AY hg11 hg12)))) hO ?_
      intro H hO
      refine jB ?_
      exact ⟨⟨[(0, (eL aA a0)), (1, (eL aA b1)), (5, (eI i5)), (54, (aK (!x9)))], by kernel_rfl, rfl, ⟨bA.refl _, bA.refl _, bA.refl _, bA.eq (congrArg aK (AY (AY hg11 hg12) rfl).symm), trivial⟩⟩, hO⟩
    · rintro T H ⟨hT, hO⟩
      refine cV hT ?_
      clear hT
      refine aH (aG ?_)
      refine bK h1 (fun h1 => ?_) (fun h1 => ?_)
      · refine bV aF 1 [(4, (aK false))] ?_
        refine bM ?_
        obtain rfl := oI h1
        obtain rfl : _ = rr0 := ho0
        replace h0 : some false = some r := h0
        obtain rfl := oI h0
        exact aH (bJ (aP (aP (bJ (aP (Q_r hO))))))
      refine bO ?_
      refine cO [(0, (eL aA a0)), (1, (eL aA b1)), (5, (eI i5))] ?_
      refine aH (aX (aG (?_)))
      refine aV aF 3 ?_
      refine bH ?_
      exact aH (aG (⟨rfl, _, (oI h1).symm, aW, hO⟩))
  refine cX 0 ?_
  obtain rfl := oI h1
  obtain rfl : _ = rr0 := ho0
  replace h0 : vB  = some r := h0
  exact aH (aS (aS (bQ (aG (⟨rfl, aW, hO, h0⟩)))))

theorem IX (a0 : (List (List aB))) (b1 : (List (List aB))) (r : Bool) (h0 : sZ a0 b1 = some r) : cE Try.prog 16 [(eL (eL aA) a0), (eL (eL aA) b1)] (aK r) := by
  intro H0
  refine cF Try.func16 ?_
  have hO := aL.start H0
  unfold sZ at h0
  refine aU aF 1 [] [] ?_
  refine aN ?_
  refine aU aF 5 [] [(10, (aK (!decide ((lN a0) = (lN b1)))))] ?_
  refine bK h0 (fun h0 => ?_) (fun h0 => ?_)
  · refine bV aF 1 [(4, (aK false))] ?_
    refine bM ?_
    obtain rfl := oI h0
    exact aH (aP (Q_r hO))
  refine bO ?_
  refine bL [(0, (eL (eL aA) a0)), (1, (eL (eL aA) b1))] ?_
  refine cK (fun T H => Has T [] ∧ aL ⟨H0, [], []⟩ H [] ∧ uA  = some r) ?_ ?_
  · clear hO h0
    rintro T H ⟨hT, hO, h0⟩
    refine bC hT ?_
    clear hT
    unfold uA at h0
    refine bV aF 1 [(4, (aK true))] ?_
    refine bM ?_
    obtain rfl := oI h0
    exact aH (Q_r hO)
  refine aU aF 1 [] [(5, (eI (0 : Int)))] ?_
  refine bT 0 ?_
  refine cS [(0, (eL (eL aA) a0)), (1, (eL (eL aA) b1)), (5, (eI (0 : Int)))] ?_
  refine cG (fun T H => ∃ i5 : Int, Has T [(0, (eL (eL aA) a0)), (1, (eL (eL aA) b1)), (5, (eI i5))] ∧ aL ⟨H0, [], []⟩ H [] ∧ xZ a0 b1 i5 = some r) ?_ ⟨(0 : Int), aW, hO, h0⟩
  clear hO h0
  rintro T H ⟨i5, hT, hO, h0⟩
  refine bC hT ?_
  clear hT
  unfold xZ at h0
  obtain ⟨rr0, hl0, h0⟩ := bB h0
  refine cZ (fun (s : Int) T H => Has T [(0, (eL (eL aA) a0)), (1, (eL (eL aA) b1)), (5, (eI s))] ∧ aL ⟨H0, [], []⟩ H []) hl0 ⟨aW, hO⟩ ?_
  clear hO
  rintro k0 s out1 T H ⟨hT, hO⟩ h1 ho0
  obtain ⟨i5, rfl⟩ : ∃ x, x = s := ⟨_, rfl⟩
  replace h1 : rQ a0 b1 i5 = some out1 := h1
  refine bC hT ?_
  clear hT
  unfold rQ at h1
  refine aN ?_
  refine aU aF 4 [] [(14, (aK (decide (i5 < (lN a0)))))] ?_
  refine bK h1 (fun h1 => ?_) (fun h1 => ?_)
  · refine bO ?_
    refine bL [(0, (eL (eL aA) a0)), (1, (eL (eL aA) b1)), (5, (eI i5))] ?_
    refine aN ?_
    refine bT 1 ?_
    refine aN ?_
    refine fB (fC [20, 24, 25]) aF 10 ?_
    obtain ⟨c3, h1⟩ := bG h1
    obtain ⟨c4, h1⟩ := bG h1
    refine cW 8 [0 ≤ i5 ∧ i5 < (lN a0), 0 ≤ i5 ∧ i5 < (lN b1)] ⟨c3, c4, trivial⟩ ?_
    obtain ⟨x5, hx6, h1⟩ := bB h1
    refine BF (VQ (gD a0 i5) (gD b1 i5) _ hx6) hO ?_
    intro H hO
    refine jB ?_
    refine bS [] [(26, (aK (!x5)))] ?_
    refine bK h1 (fun h1 => ?_) (fun h1 => ?_)
    · refine bV aF 1 [(4, (aK false))] ?_
      refine bM ?_
      obtain rfl := oI h1
      obtain rfl : _ = rr0 := ho0
      replace h0 : some false = some r := h0
      obtain rfl := oI h0
      exact aH (bJ (aP (aP (bJ (aP (Q_r hO))))))
    refine bO ?_
    refine cO [(0, (eL (eL aA) a0)), (1, (eL (eL aA) b1)), (5, (eI i5))] ?_
    refine aH (aX (aG (?_)))
    refine aV aF 3 ?_
    refine bH ?_
    exact aH (aG (⟨rfl, _, (oI h1).symm, aW, hO⟩))
  refine cX 0 ?_
  obtain rfl := oI h1
  obtain rfl : _ = rr0 := ho0
  replace h0 : uA  = some r := h0
  exact aH (aS (aS (bQ (aG (⟨rfl, aW, hO, h0⟩)))))

theorem JN (lo0p : Nat) (bF : Nat) (cN : Nat) (a0 : bE) (r : Int) (h0 : qG a0 = some r) : qE Try.prog 19 [(.lp lo0p 0 0)] [(lo0p, 2, [(.agg [(.msl 1 bF 0 (List.length a0.Clocks)), (.msl 1 cN 0 (List.length a0.aR))])]), (bF, 1, List.map (eI) a0.Clocks), (cN, 1, List.map (eL aA) a0.aR)] (fun x L => x = (eI r) ∧ L = [(lo0p, 2, [(.agg [(.msl 1 bF 0 (List.length a0.Clocks)), (.msl 1 cN 0 (List.length a0.aR))])]), (bF, 1, List.map (eI) a0.Clocks), (cN, 1, List.map (eL aA) a0.aR)]) := by
  intro F H0 hO
  obtain ⟨Fh, Fe, Fg⟩ := F
  refine cF Try.func19 ?_
  unfold qG at h0
  refine aU aF 1 [] [] ?_
  refine aU aF 1 [] [(3, (eI (0 : Int)))] ?_
  refine cK (fun T H => ∃ n3 : Int, Has T [(0, (.lp lo0p 0 0)), (3, (eI n3))] ∧ aL ⟨Fh, Fe, Fg⟩ H [(lo0p, 2, [(.agg [(.msl 1 bF 0 (List.length a0.Clocks)), (.msl 1 cN 0 (List.length a0.aR))])]), (bF, 1, List.map (eI) a0.Clocks), (cN, 1, List.map (eL aA) a0.aR)] ∧ oX a0 n3 = some r) ?_ ?_
  · clear hO h0
    rintro T H ⟨n3, hT, hO, h0⟩
    refine bC hT ?_
    clear hT
    unfold oX at h0
    refine aU aF 2 [3] [(2, (eI n3))] ?_
    refine bM ?_
    obtain rfl := oI h0
    exact aH (mO hO ⟨rfl, rfl⟩)
  refine aU aF 1 [] [(4, (eI (0 : Int)))] ?_
  refine bT 0 ?_
  refine cS [(0, (.lp lo0p 0 0)), (3, (eI (0 : Int))), (4, (eI (0 : Int)))] ?_
  refine cG (fun T H => ∃ n3 : Int, ∃ k4 : Int, Has T [(0, (.lp lo0p 0 0)), (3, (eI n3)), (4, (eI k4))] ∧ aL ⟨Fh, Fe, Fg⟩ H [(lo0p, 2, [(.agg [(.msl 1 bF 0 (List.length a0.Clocks)), (.msl 1 cN 0 (List.length a0.aR))])]), (bF, 1, List.map (eI) a0.Clocks), (cN, 1, List.map (eL aA) a0.aR)] ∧ sJ a0 n3 k4 = some r) ?_ ⟨(0 : Int), (0 : Int), aW, hO, h0⟩
  clear hO h0
  rintro T H ⟨n3, k4, hT, hO, h0⟩
  refine bC hT ?_
  clear hT
  unfold sJ at h0
  obtain ⟨rr0, hl0, h0⟩ := bB h0
  refine cZ (fun (s : Int × Int) T H => Has T [(0, (.lp lo0p 0 0)), (3, (eI s.1)), (4, (eI s.2))] ∧ aL ⟨Fh, Fe, Fg⟩ H [(lo0p, 2, [(.agg [(.msl 1 bF 0 (List.length a0.Clocks)), (.msl 1 cN 0 (List.length a0.aR))])]), (bF, 1, List.map (eI) a0.Clocks), (cN, 1, List.map (eL aA) a0.aR)]) hl0 ⟨aW, hO⟩ ?_
  clear hO
  rintro k0 s out1 T H ⟨hT, hO⟩ h1 ho0
  obtain ⟨n3, k4⟩ := s
  replace h1 : mU a0 n3 k4 = some out1 := h1
  try dsimp only at hT
  refine bC hT ?_
  clear hT
  unfold mU at h1
  refine aN ?_
  refine aN ?_
  refine aV aF 7 ?_
  refine bP 4 ?_
  refine eF 0 lo0p 2 0 (.agg [(.msl 1 bF 0 (List.length a0.Clocks)), (.msl 1 cN 0 (List.length a0.aR))]) (.msl 1 cN 0 (List.length a0.aR)) [(.agg [(.msl 1 bF 0 (List.length a0.Clocks)), (.msl 1 cN 0 (List.length a0.aR))])] hO rfl ?_
  refine bH ?_
  refine bS [] [(11, (aK (decide (k4 < (lN a0.aR)))))] ?_
  refine bK h1 (fun h1 => ?_) (fun h1 => ?_)
  · refine bO ?_
    refine bL [(0, (.lp lo0p 0 0)), (3, (eI n3)), (4, (eI k4))] ?_
    refine aN ?_
    refine bT 1 ?_
    refine aV aF 11 ?_
    refine bP 4 ?_
    refine eF 0 lo0p 2 0 (.agg [(.msl 1 bF 0 (List.length a0.Clocks)), (.msl 1 cN 0 (List.length a0.aR))]) (.msl 1 cN 0 (List.length a0.aR)) [(.agg [(.msl 1 bF 0 (List.length a0.Clocks)), (.msl 1 cN 0 (List.length a0.aR))])] hO rfl ?_
    obtain ⟨c2, h1⟩ := bG h1
    refine iB 7 [0 ≤ k4 ∧ k4 < (lN a0.aR)] ⟨c2, trivial⟩ ?_
    refine eF 2 cN 1 (0 + Int.toNat k4) (eL aA (gD a0.aR k4)) (eL aA (gD a0.aR k4)) (List.map (eL aA) a0.aR) hO (cD c2) ?_
    refine bH ?_
    refine cO [(0, (.lp lo0p 0 0)), (3, (eI (wR (n3 + (lN (gD a0.aR k4)))))), (4, (eI k4))] ?_
    refine aH (aX (aG (?_)))
    refine aV aF 3 ?_
    refine bH ?_
    exact aH (aG (⟨rfl, _, (oI h1).symm, aW, hO⟩))
  refine cX 0 ?_
  obtain rfl := oI h1
  obtain rfl : _ = rr0 := ho0
  replace h0 : oX a0 n3 = some r := h0
  exact aH (aS (aS (bQ (aG (⟨rfl, _, aW, hO, h0⟩)))))

theorem LO (n0 : Int) (l1 : (List eM)) (r : Bool) (h0 : tM n0 l1 = some r) : cE Try.prog 3 [(eI n0), (eL fE l1)] (aK r) := by
  intro H0
  refine cF Try.func3 ?_
  have hO := aL.start H0
  unfold tM at h0
  refine aU aF 1 [] [] ?_
  refine aN ?_
  refine aV aF 7 ?_
  refine bP 1 ?_
  obtain ⟨⟨oa1, oe2⟩, hx3, h0⟩ := bB h0
  refine wL [] [] (MI n0 _ hx3) hO ?_
  intro r4 L5 H hP6 hO
  rcases oa1 with _ | a9
  · obtain ⟨rfl, rfl⟩ := hP6
    replace hO : aL ⟨H0, [], []⟩ H [] := hO
    replace h0 : (cond ((decide (n0 < (1 : Int))) || (decide ((8 : Int) < n0))) ((iX ).bind fun x11 => some ((((x11 && (decide (oe2 = (2 : Int)))) && (decide ((0 : Int) = (0 : Int)))) && (decide ((0 : Int) = (0 : Int)))) && (decide ((lN ([] : List (List aB))) = (0 : Int))))) ((oS l1).bind fun x17 => cond (!x17) ((iX ).bind fun x21 => some (x21 && (decide (oe2 = (0 : Int))))) ((rL n0).bind fun x24 => none))) = some r := h0
    refine bH ?_
    refine bS [] [(5, (.lit (.pointer none))), (6, (eI oe2))] ?_
    refine aN ?_
    refine aU aF 6 [] [(19, (aK ((decide (n0 < (1 : Int))) || (decide ((8 : Int) < n0)))))] ?_
    refine bK h0 (fun h0 => ?_) (fun h0 => ?_)
    · refine aN ?_
      refine aV aF 22 ?_
      obtain ⟨x11, hx12, h0⟩ := bB h0
      refine dB (xK  _ hx12) hO ?_
      intro H hO
      refine bP 7 ?_
      refine pM [(25, true)] 7 [(.lit (.pointer none))] (eI (0 : Int)) (x11 && (decide (oe2 = (2 : Int)))) (by kernel_rfl) (by kernel_rfl) (by kernel_rfl) (fun hb14 => EW) hO ?_
      intro H hO
      refine bP 12 ?_
      refine pM [(30, true)] 8 [(.lit (.pointer none))] (eI (0 : Int)) ((x11 && (decide (oe2 = (2 : Int)))) && (decide ((0 : Int) = (0 : Int)))) (by kernel_rfl) (by kernel_rfl) (by kernel_rfl) (fun hb15 => GD) hO ?_
      intro H hO
      refine bP 17 ?_
      refine pM [(35, true)] 9 [(.lit (.pointer none))] (eL (eL aA) ([] : List (List aB))) (((x11 && (decide (oe2 = (2 : Int)))) && (decide ((0 : Int) = (0 : Int)))) && (decide ((0 : Int) = (0 : Int)))) (by kernel_rfl) (by kernel_rfl) (by kernel_rfl) (fun hb16 => DW) hO ?_
      intro H hO
      refine bH ?_
      refine bL [(4, (aK ((((x11 && (decide (oe2 = (2 : Int)))) && (decide ((0 : Int) = (0 : Int)))) && (decide ((0 : Int) = (0 : Int)))) && (decide ((lN ([] : List (List aB))) = (0 : Int))))))] ?_
      refine bM ?_
      obtain rfl := oI h0
      exact aH (aP (Q_r hO))
    refine bO ?_
    refine bL [(0, (eI n0)), (1, (eL fE l1)), (5, (.lit (.pointer none))), (6, (eI oe2))] ?_
    refine aN ?_
    refine aN ?_
    refine aV aF 3 ?_
    refine bP 1 ?_
    obtain ⟨x17, hx18, h0⟩ := bB h0
    refine dB (IV l1 _ hx18) hO ?_
    intro H hO
    refine bH ?_
    refine bS [] [(43, (aK (!x17)))] ?_
    refine bK h0 (fun h0 => ?_) (fun h0 => ?_)
    · refine aN ?_
      refine aV aF 6 ?_
      obtain ⟨x21, hx22, h0⟩ := bB h0
      refine dB (xK  _ hx22) hO ?_
      intro H hO
      refine bH ?_
      refine bL [(4, (aK (x21 && (decide (oe2 = (0 : Int))))))] ?_
      refine bM ?_
      obtain rfl := oI h0
      exact aH (aP (Q_r hO))
    refine bO ?_
    refine bL [(0, (eI n0)), (1, (eL fE l1)), (5, (.lit (.pointer none))), (6, (eI oe2))] ?_
    refine aN ?_
    refine aV aF 3 ?_
    refine bP 1 ?_
    obtain ⟨x24, hx25, h0⟩ := bB h0
    refine wL [] [] (LZ n0 _ hx25) hO ?_
    intro r29 L30 H hP31 hO
    obtain ⟨lo26, lo27, lo28, rfl, rfl⟩ := hP31
    replace hO : aL ⟨H0, [], []⟩ H [(lo26, 2, [(.agg [(.msl 1 lo27 0 (List.length x24.Clocks)), (.msl 1 lo28 0 (List.length x24.aR))])]), (lo27, 1, List.map (eI) x24.Clocks), (lo28, 1, List.map (eL aA) x24.aR)] := hO
    refine bH ?_
    refine bS [0] [(7, (.lp lo26 0 0))] ?_
    refine aN ?_
    refine aU aF 1 [6] [(8, (eI (0 : Int)))] ?_
    refine bT 0 ?_
    cases h0
  · obtain ⟨lo7, lo8, rfl, rfl⟩ := hP6
    replace hO : aL ⟨H0, [], []⟩ H [(lo7, 1, [(.agg [(.msl 2 lo8 0 (List.length a9.inputs))])]), (lo8, 2, List.map aO a9.inputs)] := hO
    replace h0 : (cond ((decide (n0 < (1 : Int))) || (decide ((8 : Int) < n0))) ((iX ).bind fun x33 => (cond (x33 && (decide (oe2 = (2 : Int)))) (eP a9) (some 0)).bind fun x36 => (cond ((x33 && (decide (oe2 = (2 : Int)))) && (decide (x36 = (0 : Int)))) (gQ a9) (some 0)).bind fun x41 => (cond (((x33 && (decide (oe2 = (2 : Int)))) && (decide (x36 = (0 : Int)))) && (decide (x41 = (0 : Int)))) (dI a9) (some ([], a9))).bind fun x46 => some ((((x33 && (decide (oe2 = (2 : Int)))) && (decide (x36 = (0 : Int)))) && (decide (x41 = (0 : Int)))) && (decide ((lN x46.1) = (0 : Int))))) ((oS l1).bind fun x52 => cond (!x52) ((iX ).bind fun x56 => some (x56 && (decide (oe2 = (0 : Int))))) ((rL n0).bind fun x59 => qL l1 a9 oe2 x59 (0 : Int)))) = some r := h0
    refine bH ?_
    refine bS [] [(5, (.lp lo7 0 0)), (6, (eI oe2))] ?_
    refine aN ?_
    refine aU aF 6 [] [(19, (aK ((decide (n0 < (1 : Int))) || (decide ((8 : Int) < n0)))))] ?_
    refine bK h0 (fun h0 => ?_) (fun h0 => ?_)
    · refine aN ?_
      refine aV aF 22 ?_
      obtain ⟨x33, hx34, h0⟩ := bB h0
      refine dB (xK  _ hx34) hO ?_
      intro H hO
      refine bP 7 ?_
      obtain ⟨x36, hx37, h0⟩ := bB h0
      refine DO [(25, true)] (x33 && (decide (oe2 = (2 : Int)))) (eI 0) [] [0, 1] (fun hb => (sI lo7 lo8 a9 _ (zS hb hx37))) (fun hb => by have hz := oI (yZ hb hx37); subst hz; exact ⟨rfl, rfl⟩) hO ?_
      intro r38 L39 H hP40 hO
      obtain ⟨rfl, rfl⟩ := hP40
      replace hO : aL ⟨H0, [], []⟩ H [(lo7, 1, [(.agg [(.msl 2 lo8 0 (List.length a9.inputs))])]), (lo8, 2, List.map aO a9.inputs)] := hO
      refine bP 12 ?_
      obtain ⟨x41, hx42, h0⟩ := bB h0
      refine DO [(30, true)] ((x33 && (decide (oe2 = (2 : Int)))) && (decide (x36 = (0 : Int)))) (eI 0) [] [0, 1] (fun hb => (xN lo7 lo8 a9 _ (zS hb hx42))) (fun hb => by have hz := oI (yZ hb hx42); subst hz; exact ⟨rfl, rfl⟩) hO ?_
      intro r43 L44 H hP45 hO
      obtain ⟨rfl, rfl⟩ := hP45
      replace hO : aL ⟨H0, [], []⟩ H [(lo7, 1, [(.agg [(.msl 2 lo8 0 (List.length a9.inputs))])]), (lo8, 2, List.map aO a9.inputs)] := hO
      refine bP 17 ?_
      obtain ⟨x46, hx47, h0⟩ := bB h0
      refine DO [(35, true)] (((x33 && (decide (oe2 = (2 : Int)))) && (decide (x36 = (0 : Int)))) && (decide (x41 = (0 : Int)))) (eL (eL aA) ([])) [] [0, 1] (fun hb => (nN lo7 lo8 a9 _ (zS hb hx47))) (fun hb => by have hz := oI (yZ hb hx47); subst hz; exact ⟨lo8, rfl, rfl⟩) hO ?_
      intro r49 L50 H hP51 hO
      obtain ⟨lo48, rfl, rfl⟩ := hP51
      replace hO : aL ⟨H0, [], []⟩ H [(lo7, 1, [(.agg [(.msl 2 lo48 0 (List.length x46.2.inputs))])]), (lo48, 2, List.map aO x46.2.inputs)] := hO
      refine bH ?_
      refine cO [(4, (aK ((((x33 && (decide (oe2 = (2 : Int)))) && (decide (x36 = (0 : Int)))) && (decide (x41 = (0 : Int)))) && (decide ((lN x46.1) = (0 : Int))))))] ?_
      replace hO := hO.pick (L' := []) [] (by decide) (by kernel_rfl)
      refine aH (aG (?_))
      refine bM ?_
      obtain rfl := oI h0
      exact aH (aP (Q_r hO))
    refine bO ?_
    refine bL [(0, (eI n0)), (1, (eL fE l1)), (5, (.lp lo7 0 0)), (6, (eI oe2))] ?_
    refine aN ?_
    refine aN ?_
    refine aV aF 3 ?_
    refine bP 1 ?_
    obtain ⟨x52, hx53, h0⟩ := bB h0
    refine dB (IV l1 _ hx53) hO ?_
    intro H hO
    refine bH ?_
    refine bS [] [(43, (aK (!x52)))] ?_
    refine bK h0 (fun h0 => ?_) (fun h0 => ?_)
    · refine aN ?_
      refine aV aF 6 ?_
      obtain ⟨x56, hx57, h0⟩ := bB h0
      refine dB (xK  _ hx57) hO ?_
      intro H hO
      refine bH ?_
      refine cO [(4, (aK (x56 && (decide (oe2 = (0 : Int))))))] ?_
      replace hO := hO.pick (L' := []) [] (by decide) (by kernel_rfl)
      refine aH (aG (?_))
      refine bM ?_
      obtain rfl := oI h0
      exact aH (aP (Q_r hO))
    refine bO ?_
    refine bL [(0, (eI n0)), (1, (eL fE l1)), (5, (.lp lo7 0 0)), (6, (eI oe2))] ?_
    refine aN ?_
    refine aV aF 3 ?_
    refine bP 1 ?_
    obtain ⟨x59, hx60, h0⟩ := bB h0
    refine wL [(lo7, 1, [(.agg [(.msl 2 lo8 0 (List.length a9.inputs))])]), (lo8, 2, List.map aO a9.inputs)] [0, 1] (LZ n0 _ hx60) hO ?_
    intro r64 L65 H hP66 hO
    obtain ⟨lo61, lo62, lo63, rfl, rfl⟩ := hP66
    replace hO : aL ⟨H0, [], []⟩ H [(lo61, 2, [(.agg [(.msl 1 lo62 0 (List.length x59.Clocks)), (.msl 1 lo63 0 (List.length x59.aR))])]), (lo62, 1, List.map (eI) x59.Clocks), (lo63, 1, List.map (eL aA) x59.aR), (lo7, 1, [(.agg [(.msl 2 lo8 0 (List.length a9.inputs))])]), (lo8, 2, List.map aO a9.inputs)] := hO
    refine bH ?_
    replace hO := hO.pick (L' := [(lo7, 1, [(.agg [(.msl 2 lo8 0 (List.length a9.inputs))])]), (lo8, 2, List.map aO a9.inputs), (lo61, 2, [(.agg [(.msl 1 lo62 0 (List.length x59.Clocks)), (.msl 1 lo63 0 (List.length x59.aR))])]), (lo62, 1, List.map (eI) x59.Clocks), (lo63, 1, List.map (eL aA) x59.aR)]) [3, 4, 0, 1, 2] (by decide) (by kernel_rfl)
    refine bS [0] [(7, (.lp lo61 0 0))] ?_
    refine cK (fun T H => ∃ a5 : bN, ∃ e6 : Int, ∃ b7 : bE, ∃ lo67 : Nat, ∃ lo68 : Nat, ∃ lo69 : Nat, Has T [(5, (.lp lo7 0 0)), (6, (eI e6)), (7, (.lp lo61 0 0))] ∧ aL ⟨H0, [], []⟩ H [(lo7, 1, [(.agg [(.msl 2 lo67 0 (List.length a5.inputs))])]), (lo67, 2, List.map aO a5.inputs), (lo61, 2, [(.agg [(.msl 1 lo68 0 (List.length b7.Clocks)), (.msl 1 lo69 0 (List.length b7.aR))])]), (lo68, 1, List.map (eI) b7.Clocks), (lo69, 1, List.map (eL aA) b7.aR)] ∧ qF a5 e6 b7 = some r) ?_ ?_
    · clear hO h0
      rintro T H ⟨a5, e6, b7, lo67, lo68, lo69, hT, hO, h0⟩
      refine bC hT ?_
      clear hT
      unfold qF at h0
      refine aN ?_
      refine aV aF 13 ?_
      obtain ⟨x70, hx71, h0⟩ := bB h0
      refine dB (xK  _ hx71) hO ?_
      intro H hO
      refine bP 7 ?_
      obtain ⟨x73, hx74, h0⟩ := bB h0
      refine DO [(139, true)] (x70 && (decide (e6 = (0 : Int)))) (eL (eL aA) ([])) [(lo61, 2, [(.agg [(.msl 1 lo68 0 (List.length b7.Clocks)), (.msl 1 lo69 0 (List.length b7.aR))])]), (lo68, 1, List.map (eI) b7.Clocks), (lo69, 1, List.map (eL aA) b7.aR)] [0, 1, 2, 3, 4] (fun hb => (nN lo7 lo67 a5 _ (zS hb hx74))) (fun hb => by have hz := oI (yZ hb hx74); subst hz; exact ⟨lo67, rfl, rfl⟩) hO ?_
      intro r76 L77 H hP78 hO
      obtain ⟨lo75, rfl, rfl⟩ := hP78
      replace hO : aL ⟨H0, [], []⟩ H [(lo7, 1, [(.agg [(.msl 2 lo75 0 (List.length x73.2.inputs))])]), (lo75, 2, List.map aO x73.2.inputs), (lo61, 2, [(.agg [(.msl 1 lo68 0 (List.length b7.Clocks)), (.msl 1 lo69 0 (List.length b7.aR))])]), (lo68, 1, List.map (eI) b7.Clocks), (lo69, 1, List.map (eL aA) b7.aR)] := hO
      refine bP 9 ?_
      obtain ⟨x79, hx80, h0⟩ := bB h0
      refine DO [(139, true)] (x70 && (decide (e6 = (0 : Int)))) (eL (eL aA) ([])) [(lo7, 1, [(.agg [(.msl 2 lo75 0 (List.length x73.2.inputs))])]), (lo75, 2, List.map aO x73.2.inputs)] [2, 3, 4, 0, 1] (fun hb => (AH lo61 lo68 lo69 b7 _ (zS hb hx80))) (fun hb => by have hz := oI (yZ hb hx80); subst hz; exact ⟨lo68, lo69, rfl, rfl⟩) hO ?_
      intro r83 L84 H hP85 hO
      obtain ⟨lo81, lo82, rfl, rfl⟩ := hP85
      replace hO : aL ⟨H0, [], []⟩ H [(lo61, 2, [(.agg [(.msl 1 lo81 0 (List.length x79.2.Clocks)), (.msl 1 lo82 0 (List.length x79.2.aR))])]), (lo81, 1, List.map (eI) x79.2.Clocks), (lo82, 1, List.map (eL aA) x79.2.aR), (lo7, 1, [(.agg [(.msl 2 lo75 0 (List.length x73.2.inputs))])]), (lo75, 2, List.map aO x73.2.inputs)] := hO
      obtain ⟨x86, hx87, h0⟩ := bB h0
      refine pM [(139, true)] 16 [(eL (eL aA) x73.1), (eL (eL aA) x79.1)] (aK x86) (x70 && (decide (e6 = (0 : Int)))) (by kernel_rfl) (by kernel_rfl) (by kernel_rfl) (fun hb88 => (IX x73.1 x79.1 _ (qW hx87 hb88))) hO ?_
      intro H hO
      refine bH ?_
      refine cO [(4, (aK ((x70 && (decide (e6 = (0 : Int)))) && x86)))] ?_
      replace hO := hO.pick (L' := []) [] (by decide) (by kernel_rfl)
      refine aH (aG (?_))
      refine bM ?_
      obtain rfl := oI h0
      exact aH (Q_r hO)
    refine aU aF 1 [] [(8, (eI (0 : Int)))] ?_
    refine bT 0 ?_
    refine cS [(1, (eL fE l1)), (5, (.lp lo7 0 0)), (6, (eI oe2)), (7, (.lp lo61 0 0)), (8, (eI (0 : Int)))] ?_
    refine cG (fun T H => ∃ a5 : bN, ∃ e6 : Int, ∃ b7 : bE, ∃ i8 : Int, ∃ lo92 : Nat, ∃ lo93 : Nat, ∃ lo94 : Nat, Has T [(1, (eL fE l1)), (5, (.lp lo7 0 0)), (6, (eI e6)), (7, (.lp lo61 0 0)), (8, (eI i8))] ∧ aL ⟨H0, [], []⟩ H [(lo7, 1, [(.agg [(.msl 2 lo92 0 (List.length a5.inputs))])]), (lo92, 2, List.map aO a5.inputs), (lo61, 2, [(.agg [(.msl 1 lo93 0 (List.length b7.Clocks)), (.msl 1 lo94 0 (List.length b7.aR))])]), (lo93, 1, List.map (eI) b7.Clocks), (lo94, 1, List.map (eL aA) b7.aR)] ∧ qL l1 a5 e6 b7 i8 = some r) ?_ ⟨a9, oe2, x59, (0 : Int), lo8, lo62, lo63, aW, hO, h0⟩
    clear hO h0
    rintro T H ⟨a5, e6, b7, i8, lo92, lo93, lo94, hT, hO, h0⟩
    refine bC hT ?_
    clear hT
    unfold qL at h0
    obtain ⟨rr0, hl0, h0⟩ := bB h0
    refine cZ (fun (s : bN × bE × Int) T H => ∃ lo92 : Nat, ∃ lo93 : Nat, ∃ lo94 : Nat, Has T [(1, (eL fE l1)), (5, (.lp lo7 0 0)), (6, (eI e6)), (7, (.lp lo61 0 0)), (8, (eI s.2.2))] ∧ aL ⟨H0, [], []⟩ H [(lo7, 1, [(.agg [(.msl 2 lo92 0 (List.length s.1.inputs))])]), (lo92, 2, List.map aO s.1.inputs), (lo61, 2, [(.agg [(.msl 1 lo93 0 (List.length s.2.1.Clocks)), (.msl 1 lo94 0 (List.length s.2.1.aR))])]), (lo93, 1, List.map (eI) s.2.1.Clocks), (lo94, 1, List.map (eL aA) s.2.1.aR)]) hl0 ⟨lo92, lo93, lo94, aW, hO⟩ ?_
    clear hO
    rintro k0 s out1 T H ⟨lo92, lo93, lo94, hT, hO⟩ h1 ho0
    obtain ⟨a5, b7, i8⟩ := s
    replace h1 : jC l1 e6 a5 b7 i8 = some out1 := h1
    try dsimp only at hT
    refine bC hT ?_
    clear hT
    unfold jC at h1
    refine aN ?_
    refine aU aF 4 [] [(54, (aK (decide (i8 < (lN l1)))))] ?_
    refine bK h1 (fun h1 => ?_) (fun h1 => ?_)
    · refine bO ?_
      refine bL [(1, (eL fE l1)), (5, (.lp lo7 0 0)), (6, (eI e6)), (7, (.lp lo61 0 0)), (8, (eI i8))] ?_
      refine aN ?_
      refine bT 1 ?_
      refine cK (fun T H => ∃ a5 : bN, ∃ b7 : bE, ∃ lo96 : Nat, ∃ lo97 : Nat, ∃ lo98 : Nat, Has T [(1, (eL fE l1)), (5, (.lp lo7 0 0)), (6, (eI e6)), (7, (.lp lo61 0 0)), (8, (eI i8))] ∧ aL ⟨H0, [], []⟩ H [(lo7, 1, [(.agg [(.msl 2 lo96 0 (List.length a5.inputs))])]), (lo96, 2, List.map aO a5.inputs), (lo61, 2, [(.agg [(.msl 1 lo97 0 (List.length b7.Clocks)), (.msl 1 lo98 0 (List.length b7.aR))])]), (lo97, 1, List.map (eI) b7.Clocks), (lo98, 1, List.map (eL aA) b7.aR)] ∧ kR l1 a5 e6 b7 i8 = some out1) ?_ ?_
      · clear hO h1
        rintro T H ⟨a5, b7, lo96, lo97, lo98, hT, hO, h1⟩
        refine bC hT ?_
        clear hT
        unfold kR at h1
        refine aN ?_
        refine aV aF 12 ?_
        refine bP 1 ?_
        obtain ⟨x99, aEb, h1⟩ := bB h1
        refine wL [(lo61, 2, [(.agg [(.msl 1 lo97 0 (List.length b7.Clocks)), (.msl 1 lo98 0 (List.length b7.aR))])]), (lo97, 1, List.map (eI) b7.Clocks), (lo98, 1, List.map (eL aA) b7.aR)] [0, 1, 2, 3, 4] (sI lo7 lo96 a5 _ aEb) hO ?_
        intro r101 L102 H aEm hO
        obtain ⟨rfl, rfl⟩ := aEm
        replace hO : aL ⟨H0, [], []⟩ H [(lo7, 1, [(.agg [(.msl 2 lo96 0 (List.length a5.inputs))])]), (lo96, 2, List.map aO a5.inputs), (lo61, 2, [(.agg [(.msl 1 lo97 0 (List.length b7.Clocks)), (.msl 1 lo98 0 (List.length b7.aR))])]), (lo97, 1, List.map (eI) b7.Clocks), (lo98, 1, List.map (eL aA) b7.aR)] := hO
        refine bP 3 ?_
        obtain ⟨x104, aEr, h1⟩ := bB h1
        refine wL [(lo7, 1, [(.agg [(.msl 2 lo96 0 (List.length a5.inputs))])]), (lo96, 2, List.map aO a5.inputs)] [2, 3, 4, 0, 1] (BQ lo61 lo97 lo98 b7 _ aEr) hO ?_
        intro r106 L107 H aEt hO
        obtain ⟨rfl, rfl⟩ := aEt
        replace hO : aL ⟨H0, [], []⟩ H [(lo61, 2, [(.agg [(.msl 1 lo97 0 (List.length b7.Clocks)), (.msl 1 lo98 0 (List.length b7.aR))])]), (lo97, 1, List.map (eI) b7.Clocks), (lo98, 1, List.map (eL aA) b7.aR), (lo7, 1, [(.agg [(.msl 2 lo96 0 (List.length a5.inputs))])]), (lo96, 2, List.map aO a5.inputs)] := hO
        refine bP 7 ?_
        obtain ⟨x109, aCz, h1⟩ := bB h1
        refine DO [(127, false)] (!(!decide (x99 = x104))) (eI 0) [(lo61, 2, [(.agg [(.msl 1 lo97 0 (List.length b7.Clocks)), (.msl 1 lo98 0 (List.length b7.aR))])]), (lo97, 1, List.map (eI) b7.Clocks), (lo98, 1, List.map (eL aA) b7.aR)] [3, 4, 0, 1, 2] (fun hb => (xN lo7 lo96 a5 _ (zS hb aCz))) (fun hb => by have hz := oI (yZ hb aCz); subst hz; exact ⟨rfl, rfl⟩) hO ?_
        intro r111 L112 H aEf hO
        obtain ⟨rfl, rfl⟩ := aEf
        replace hO : aL ⟨H0, [], []⟩ H [(lo7, 1, [(.agg [(.msl 2 lo96 0 (List.length a5.inputs))])]), (lo96, 2, List.map aO a5.inputs), (lo61, 2, [(.agg [(.msl 1 lo97 0 (List.length b7.Clocks)), (.msl 1 lo98 0 (List.length b7.aR))])]), (lo97, 1, List.map (eI) b7.Clocks), (lo98, 1, List.map (eL aA) b7.aR)] := hO
        refine bP 9 ?_
        obtain ⟨x114, aCv, h1⟩ := bB h1
        refine DO [(127, false)] (!(!decide (x99 = x104))) (eI 0) [(lo7, 1, [(.agg [(.msl 2 lo96 0 (List.length a5.inputs))])]), (lo96, 2, List.map aO a5.inputs)] [2, 3, 4, 0, 1] (fun hb => (JN lo61 lo97 lo98 b7 _ (zS hb aCv))) (fun hb => by have hz := oI (yZ hb aCv); subst hz; exact ⟨rfl, rfl⟩) hO ?_
        intro r116 L117 H aEl hO
        obtain ⟨rfl, rfl⟩ := aEl
        replace hO : aL ⟨H0, [], []⟩ H [(lo61, 2, [(.agg [(.msl 1 lo97 0 (List.length b7.Clocks)), (.msl 1 lo98 0 (List.length b7.aR))])]), (lo97, 1, List.map (eI) b7.Clocks), (lo98, 1, List.map (eL aA) b7.aR), (lo7, 1, [(.agg [(.msl 2 lo96 0 (List.length a5.inputs))])]), (lo96, 2, List.map aO a5.inputs)] := hO
        refine bH ?_
        replace hO := hO.pick (L' := [(lo7, 1, [(.agg [(.msl 2 lo96 0 (List.length a5.inputs))])]), (lo96, 2, List.map aO a5.inputs), (lo61, 2, [(.agg [(.msl 1 lo97 0 (List.length b7.Clocks)), (.msl 1 lo98 0 (List.length b7.aR))])]), (lo97, 1, List.map (eI) b7.Clocks), (lo98, 1, List.map (eL aA) b7.aR)]) [3, 4, 0, 1, 2] (by decide) (by kernel_rfl)
        refine bS [] [(133, (aK ((!decide (x99 = x104)) || (!decide (x109 = x114)))))] ?_
        refine bK h1 (fun h1 => ?_) (fun h1 => ?_)
        · refine aN ?_
          refine aV aF 1 ?_
          refine bH ?_
          refine cO [(4, (aK false))] ?_
          replace hO := hO.pick (L' := []) [] (by decide) (by kernel_rfl)
          refine aH (aG (?_))
          refine bM ?_
          obtain rfl := oI h1
          obtain rfl : _ = rr0 := ho0
          replace h0 : some false = some r := h0
          obtain rfl := oI h0
          exact aH (bJ (aP (aP (bJ (aP (Q_r hO))))))
        refine bO ?_
        refine cO [(1, (eL fE l1)), (5, (.lp lo7 0 0)), (6, (eI e6)), (7, (.lp lo61 0 0)), (8, (eI i8))] ?_
        refine aH (aX (aG (?_)))
        refine aV aF 3 ?_
        refine bH ?_
        exact aH (aG (⟨rfl, _, (oI h1).symm, _, _, _, aW, hO⟩))
      refine aN ?_
      refine aV aF 5 ?_
      obtain ⟨c120, h1⟩ := bG h1
      refine oH [0 ≤ i8 ∧ i8 < (lN l1)] ⟨c120, trivial⟩ ?_
      refine bS [] [(61, (eI ((gD l1 i8).Kind)))] ?_
      refine bT 2 ?_
      refine aU aF 2 [] [(68, (aK (decide (((gD l1 i8).Kind) = (0 : Int)))))] ?_
      refine bK h1 (fun h1 => ?_) (fun h1 => ?_)
      · refine aN ?_
        refine fB (fC [75, 80, 87, 92]) aF 25 ?_
        obtain ⟨c122, h1⟩ := bG h1
        obtain ⟨c123, h1⟩ := bG h1
        refine cW 11 [0 ≤ i8 ∧ i8 < (lN l1), 0 ≤ i8 ∧ i8 < (lN l1)] ⟨c122, c123, trivial⟩ ?_
        obtain ⟨x124, aEg, h1⟩ := bB h1
        refine ZB [(lo61, 2, [(.agg [(.msl 1 lo93 0 (List.length b7.Clocks)), (.msl 1 lo94 0 (List.length b7.aR))])]), (lo93, 1, List.map (eI) b7.Clocks), (lo94, 1, List.map (eL aA) b7.aR)] [0, 1, 2, 3, 4] (DK lo7 lo92 a5 ((gD l1 i8).Input) ((gD l1 i8).Edges) _ aEg) hO ?_
        intro r127 L128 H aD5 hO
        obtain ⟨FD, rfl, rfl⟩ := aD5
        replace hO : aL ⟨H0, [], []⟩ H [(lo7, 1, [(.agg [(.msl 2 FD 0 (List.length x124.2.inputs))])]), (FD, 2, List.map aO x124.2.inputs), (lo61, 2, [(.agg [(.msl 1 lo93 0 (List.length b7.Clocks)), (.msl 1 lo94 0 (List.length b7.aR))])]), (lo93, 1, List.map (eI) b7.Clocks), (lo94, 1, List.map (eL aA) b7.aR)] := hO
        obtain ⟨c130, h1⟩ := bG h1
        obtain ⟨c131, h1⟩ := bG h1
        refine cW 23 [0 ≤ i8 ∧ i8 < (lN l1), 0 ≤ i8 ∧ i8 < (lN l1)] ⟨c130, c131, trivial⟩ ?_
        obtain ⟨x132, aEd, h1⟩ := bB h1
        refine ZB [(lo7, 1, [(.agg [(.msl 2 FD 0 (List.length x124.2.inputs))])]), (FD, 2, List.map aO x124.2.inputs)] [2, 3, 4, 0, 1] (LN lo61 lo93 lo94 b7 ((gD l1 i8).Input) ((gD l1 i8).Edges) _ aEd) hO ?_
        intro r136 L137 H aEa hO
        obtain ⟨SP, SD, rfl, rfl⟩ := aEa
        replace hO : aL ⟨H0, [], []⟩ H [(lo61, 2, [(.agg [(.msl 1 SP 0 (List.length x132.2.Clocks)), (.msl 1 SD 0 (List.length x132.2.aR))])]), (SP, 1, List.map (eI) x132.2.Clocks), (SD, 1, List.map (eL aA) x132.2.aR), (lo7, 1, [(.agg [(.msl 2 FD 0 (List.length x124.2.inputs))])]), (FD, 2, List.map aO x124.2.inputs)] := hO
        refine jB ?_
        replace hO := hO.pick (L' := [(lo7, 1, [(.agg [(.msl 2 FD 0 (List.length x124.2.inputs))])]), (FD, 2, List.map aO x124.2.inputs), (lo61, 2, [(.agg [(.msl 1 SP 0 (List.length x132.2.Clocks)), (.msl 1 SD 0 (List.length x132.2.aR))])]), (SP, 1, List.map (eI) x132.2.Clocks), (SD, 1, List.map (eL aA) x132.2.aR)]) [3, 4, 0, 1, 2] (by decide) (by kernel_rfl)
        refine bS [61, 68] [(94, (aK (!decide (x124.1 = x132.1))))] ?_
        refine bK h1 (fun h1 => ?_) (fun h1 => ?_)
        · refine aN ?_
          refine aV aF 1 ?_
          refine bH ?_
          refine cO [(4, (aK false))] ?_
          replace hO := hO.pick (L' := []) [] (by decide) (by kernel_rfl)
          refine aH (aG (?_))
          refine bM ?_
          obtain rfl := oI h1
          obtain rfl : _ = rr0 := ho0
          replace h0 : some false = some r := h0
          obtain rfl := oI h0
          exact aH (bJ (aP (bJ (aP (aP (bJ (aP (Q_r hO))))))))
        refine bO ?_
        exact aH (aX (aG (⟨rfl, _, _, _, _, _, aW, hO, h1⟩)))
      refine aU aF 2 [61, 68] [(95, (aK (decide (((gD l1 i8).Kind) = (1 : Int)))))] ?_
      refine bK h1 (fun h1 => ?_) (fun h1 => ?_)
      · refine aN ?_
        refine fB (fC [102, 107, 114, 119]) aF 25 ?_
        obtain ⟨c141, h1⟩ := bG h1
        obtain ⟨c142, h1⟩ := bG h1
        refine cW 11 [0 ≤ i8 ∧ i8 < (lN l1), 0 ≤ i8 ∧ i8 < (lN l1)] ⟨c141, c142, trivial⟩ ?_
        obtain ⟨x143, aEj, h1⟩ := bB h1
        refine ZB [(lo61, 2, [(.agg [(.msl 1 lo93 0 (List.length b7.Clocks)), (.msl 1 lo94 0 (List.length b7.aR))])]), (lo93, 1, List.map (eI) b7.Clocks), (lo94, 1, List.map (eL aA) b7.aR)] [0, 1, 2, 3, 4] (wI lo7 lo92 a5 ((gD l1 i8).Input) ((gD l1 i8).At) _ aEj) hO ?_
        intro r146 L147 H aD3 hO
        obtain ⟨FA, rfl, rfl⟩ := aD3
        replace hO : aL ⟨H0, [], []⟩ H [(lo7, 1, [(.agg [(.msl 2 FA 0 (List.length x143.2.inputs))])]), (FA, 2, List.map aO x143.2.inputs), (lo61, 2, [(.agg [(.msl 1 lo93 0 (List.length b7.Clocks)), (.msl 1 lo94 0 (List.length b7.aR))])]), (lo93, 1, List.map (eI) b7.Clocks), (lo94, 1, List.map (eL aA) b7.aR)] := hO
        obtain ⟨c149, h1⟩ := bG h1
        obtain ⟨c150, h1⟩ := bG h1
        refine cW 23 [0 ≤ i8 ∧ i8 < (lN l1), 0 ≤ i8 ∧ i8 < (lN l1)] ⟨c149, c150, trivial⟩ ?_
        obtain ⟨x151, aEh, h1⟩ := bB h1
        refine ZB [(lo7, 1, [(.agg [(.msl 2 FA 0 (List.length x143.2.inputs))])]), (FA, 2, List.map aO x143.2.inputs)] [2, 3, 4, 0, 1] (JA lo61 lo93 lo94 b7 ((gD l1 i8).Input) ((gD l1 i8).At) _ aEh) hO ?_
        intro r155 L156 H aEs hO
        obtain ⟨SI, SJ, rfl, rfl⟩ := aEs
        replace hO : aL ⟨H0, [], []⟩ H [(lo61, 2, [(.agg [(.msl 1 SI 0 (List.length x151.2.Clocks)), (.msl 1 SJ 0 (List.length x151.2.aR))])]), (SI, 1, List.map (eI) x151.2.Clocks), (SJ, 1, List.map (eL aA) x151.2.aR), (lo7, 1, [(.agg [(.msl 2 FA 0 (List.length x143.2.inputs))])]), (FA, 2, List.map aO x143.2.inputs)] := hO
        refine jB ?_
        replace hO := hO.pick (L' := [(lo7, 1, [(.agg [(.msl 2 FA 0 (List.length x143.2.inputs))])]), (FA, 2, List.map aO x143.2.inputs), (lo61, 2, [(.agg [(.msl 1 SI 0 (List.length x151.2.Clocks)), (.msl 1 SJ 0 (List.length x151.2.aR))])]), (SI, 1, List.map (eI) x151.2.Clocks), (SJ, 1, List.map (eL aA) x151.2.aR)]) [3, 4, 0, 1, 2] (by decide) (by kernel_rfl)
        refine bS [95] [(121, (aK (!decide (x143.1 = x151.1))))] ?_
        refine bK h1 (fun h1 => ?_) (fun h1 => ?_)
        · refine aN ?_
          refine aV aF 1 ?_
          refine bH ?_
          refine cO [(4, (aK false))] ?_
          replace hO := hO.pick (L' := []) [] (by decide) (by kernel_rfl)
          refine aH (aG (?_))
          refine bM ?_
          obtain rfl := oI h1
          obtain rfl : _ = rr0 := ho0
          replace h0 : some false = some r := h0
          obtain rfl := oI h0
          exact aH (bJ (aP (bJ (aP (aP (bJ (aP (Q_r hO))))))))
        refine bO ?_
        exact aH (aX (aG (⟨rfl, _, _, _, _, _, aW, hO, h1⟩)))
      refine aN ?_
      refine aV aF 6 ?_
      refine bP 1 ?_
      obtain ⟨x159, aEi, h1⟩ := bB h1
      refine wL [(lo61, 2, [(.agg [(.msl 1 lo93 0 (List.length b7.Clocks)), (.msl 1 lo94 0 (List.length b7.aR))])]), (lo93, 1, List.map (eI) b7.Clocks), (lo94, 1, List.map (eL aA) b7.aR)] [0, 1, 2, 3, 4] (nN lo7 lo92 a5 _ aEi) hO ?_
      intro r162 L163 H aEo hO
      obtain ⟨FB, rfl, rfl⟩ := aEo
      replace hO : aL ⟨H0, [], []⟩ H [(lo7, 1, [(.agg [(.msl 2 FB 0 (List.length x159.2.inputs))])]), (FB, 2, List.map aO x159.2.inputs), (lo61, 2, [(.agg [(.msl 1 lo93 0 (List.length b7.Clocks)), (.msl 1 lo94 0 (List.length b7.aR))])]), (lo93, 1, List.map (eI) b7.Clocks), (lo94, 1, List.map (eL aA) b7.aR)] := hO
      refine bP 3 ?_
      obtain ⟨x165, aEk, h1⟩ := bB h1
      refine wL [(lo7, 1, [(.agg [(.msl 2 FB 0 (List.length x159.2.inputs))])]), (FB, 2, List.map aO x159.2.inputs)] [2, 3, 4, 0, 1] (AH lo61 lo93 lo94 b7 _ aEk) hO ?_
      intro r169 L170 H aEw hO
      obtain ⟨SC, SF, rfl, rfl⟩ := aEw
      replace hO : aL ⟨H0, [], []⟩ H [(lo61, 2, [(.agg [(.msl 1 SC 0 (List.length x165.2.Clocks)), (.msl 1 SF 0 (List.length x165.2.aR))])]), (SC, 1, List.map (eI) x165.2.Clocks), (SF, 1, List.map (eL aA) x165.2.aR), (lo7, 1, [(.agg [(.msl 2 FB 0 (List.length x159.2.inputs))])]), (FB, 2, List.map aO x159.2.inputs)] := hO
      obtain ⟨x172, aEe, h1⟩ := bB h1
      refine dB (IX x159.1 x165.1 _ aEe) hO ?_
      intro H hO
      refine bH ?_
      replace hO := hO.pick (L' := [(lo7, 1, [(.agg [(.msl 2 FB 0 (List.length x159.2.inputs))])]), (FB, 2, List.map aO x159.2.inputs), (lo61, 2, [(.agg [(.msl 1 SC 0 (List.length x165.2.Clocks)), (.msl 1 SF 0 (List.length x165.2.aR))])]), (SC, 1, List.map (eI) x165.2.Clocks), (SF, 1, List.map (eL aA) x165.2.aR)]) [3, 4, 0, 1, 2] (by decide) (by kernel_rfl)
      refine bS [95] [(67, (aK (!x172)))] ?_
      refine bK h1 (fun h1 => ?_) (fun h1 => ?_)
      · refine aN ?_
        refine aV aF 1 ?_
        refine bH ?_
        refine cO [(4, (aK false))] ?_
        replace hO := hO.pick (L' := []) [] (by decide) (by kernel_rfl)
        refine aH (aG (?_))
        refine bM ?_
        obtain rfl := oI h1
        obtain rfl : _ = rr0 := ho0
        replace h0 : some false = some r := h0
        obtain rfl := oI h0
        exact aH (bJ (aP (bJ (aP (aP (bJ (aP (Q_r hO))))))))
      refine bO ?_
      exact aH (aX (aG (⟨rfl, _, _, _, _, _, aW, hO, h1⟩)))
    refine cX 0 ?_
    obtain rfl := oI h1
    obtain rfl : _ = rr0 := ho0
    replace h0 : qF a5 e6 b7 = some r := h0
    exact aH (aS (aS (bQ (aG (⟨rfl, _, _, _, _, _, _, aW, hO, h0⟩)))))

end Go.Abs
namespace Go.Abs
open Go Go.RowKit Go.Proofs
theorem LC {H : Type} {enc : TypeId × Value → H} {w : World} : zP enc Try.prog w 53 aJ EL :=
  ED Try.underlying53 (by kernel_rfl) (nY (c' := MH) (ok' := EL) (fun (a : Int) (b : Int × ByteArray × Unit) => (aI.mk a b.1 b.2.1 : aI)) (by kernel_rfl) (xG Try.underlying51) (nY (c' := fun (b : Int × ByteArray × Unit) => (V.cells (rU .i64 b.1) ++ (V.cells (BU b.2.1) ++ []))) (ok' := fun b => (uT b.1 ∧ ((fun s => s.size ≤ maxLen) b.2.1 ∧ True))) (fun a b => (a, b)) (by kernel_rfl) (xG Try.underlying3) (nY (c' := fun (b : ByteArray × Unit) => (V.cells (BU b.1) ++ [])) (ok' := fun b => ((fun s => s.size ≤ maxLen) b.1 ∧ True)) (fun a b => (a, b)) (by kernel_rfl) (TV Try.underlying9) (HK ()) (fun _ _ => rfl) (fun _ _ h1 h2 => ⟨h1, h2⟩)) (fun _ _ => rfl) (fun _ _ h1 h2 => ⟨h1, h2⟩)) (fun _ _ => rfl) (fun _ _ h1 h2 => ⟨h1, h2⟩))

theorem LQ {H : Type} {enc : TypeId × Value → H} {w : World} : zP enc Try.prog w 44 aA vY :=
  ED Try.underlying44 (by kernel_rfl) (nY (c' := PD) (ok' := vY) (fun (a : (List aI)) (b : Int × Int × Unit) => (aB.mk a b.1 b.2.1 : aB)) (by kernel_rfl) (MC Try.underlying42 (by decide +kernel) (fun _ => by kernel_rfl) (fun _ => rfl) LC (by kernel_rfl)) (nY (c' := fun (b : Int × Int × Unit) => (V.cells (rU .i64 b.1) ++ (V.cells (rU .i64 b.2.1) ++ []))) (ok' := fun b => (uT b.1 ∧ (uT b.2.1 ∧ True))) (fun a b => (a, b)) (by kernel_rfl) (xG Try.underlying3) (nY (c' := fun (b : Int × Unit) => (V.cells (rU .i64 b.1) ++ [])) (ok' := fun b => (uT b.1 ∧ True)) (fun a b => (a, b)) (by kernel_rfl) (xG Try.underlying3) (HK ()) (fun _ _ => rfl) (fun _ _ h1 h2 => ⟨h1, h2⟩)) (fun _ _ => rfl) (fun _ _ h1 h2 => ⟨h1, h2⟩)) (fun _ _ => rfl) (fun _ _ h1 h2 => ⟨h1, h2⟩))

theorem LL {H : Type} {enc : TypeId × Value → H} {w : World} : zP enc Try.prog w 36 fE CN :=
  ED Try.underlying36 (by kernel_rfl) (nY (c' := OC) (ok' := CN) (fun (a : Int) (b : Int × (List aB) × Int × Unit) => (eM.mk a b.1 b.2.1 b.2.2.1 : eM)) (by kernel_rfl) (xG Try.underlying3) (nY (c' := fun (b : Int × (List aB) × Int × Unit) => (V.cells (rU .i64 b.1) ++ (V.cells (eL aA b.2.1) ++ (V.cells (rU .i64 b.2.2.1) ++ [])))) (ok' := fun b => (uT b.1 ∧ ((fun l => (∀ a ∈ l, vY a) ∧ l.length * 40 ≤ 140737488351232) b.2.1 ∧ (uT b.2.2.1 ∧ True)))) (fun a b => (a, b)) (by kernel_rfl) (xG Try.underlying3) (nY (c' := fun (b : (List aB) × Int × Unit) => (V.cells (eL aA b.1) ++ (V.cells (rU .i64 b.2.1) ++ []))) (ok' := fun b => ((fun l => (∀ a ∈ l, vY a) ∧ l.length * 40 ≤ 140737488351232) b.1 ∧ (uT b.2.1 ∧ True))) (fun a b => (a, b)) (by kernel_rfl) (MC Try.underlying34 (by decide +kernel) (fun _ => by kernel_rfl) (fun _ => rfl) LQ (by kernel_rfl)) (nY (c' := fun (b : Int × Unit) => (V.cells (rU .i64 b.1) ++ [])) (ok' := fun b => (uT b.1 ∧ True)) (fun a b => (a, b)) (by kernel_rfl) (xG Try.underlying3) (HK ()) (fun _ _ => rfl) (fun _ _ h1 h2 => ⟨h1, h2⟩)) (fun _ _ => rfl) (fun _ _ h1 h2 => ⟨h1, h2⟩)) (fun _ _ => rfl) (fun _ _ h1 h2 => ⟨h1, h2⟩)) (fun _ _ => rfl) (fun _ _ h1 h2 => ⟨h1, h2⟩))

end Go.Abs
namespace Go.Abs
open Go
theorem fA {n : Int} (h1 : -9223372036854775808 ≤ n) (h2 : n ≤ 9223372036854775807) : IntKind.i64.wrap n = n := by
  simp only [IntKind.wrap, IntKind.bits, IntKind.signed]
  simp
  split <;> omega

def zR {α st R : Type} (step : st → α → Option (st ⊕ R)) (fin : st → R) : st → List α → Option R
  | s, [] => some (fin s)
  | s, a :: r => match step s a with
    | some (.inl s') => zR step fin s' r
    | some (.inr x) => some x
    | none => none

theorem YZ {α st R : Type} {step : st → α → Option (st ⊕ R)} {fin : st → R} {s s' : st} {a : α} {r : List α} (h : step s a = some (.inl s')) : zR step fin s (a :: r) = zR step fin s' r := by
  simp only [zR, h]

theorem YU {α st R : Type} {step : st → α → Option (st ⊕ R)} {fin : st → R} {s : st} {x : R} {a : α} {r : List α} (h : step s a = some (.inr x)) : zR step fin s (a :: r) = some x := by
  simp only [zR, h]

theorem YB {α S st R : Type} {body : S → Option (S ⊕ R)} {l : List α} (mk : st → Int → S) (step : st → α → Option (st ⊕ R)) (fin : st → R)
    (hn : ∀ (i : Nat) a s, l[i]? = some a → (∀ s', step s a = some (.inl s') → body (mk s i) = some (.inl (mk s' ((i + 1 : Nat) : Int)))) ∧ (∀ x, step s a = some (.inr x) → body (mk s i) = some (.inr x)))
    (he : ∀ s, body (mk s (l.length : Nat)) = some (.inr (fin s))) : ∀ (m k : Nat) (s : st) (r : R), l.length - k = m → k ≤ l.length → zR step fin s (l.drop k) = some r → lp body (mk s k) = some r
  | 0, k, s, r, hm, hk, h => by
    have : k = l.length := by omega
    subst this
    rw [List.drop_length] at h
    simp only [zR, Option.some.injEq] at h
    subst h
    exact cM (he s)
  | m + 1, k, s, r, hm, hk, h => by
    have hlt : k < l.length := by omega
    have hd : l.drop k = l[k] :: l.drop (k + 1) := List.drop_eq_getElem_cons hlt
    rw [hd] at h
    simp only [zR] at h
    obtain ⟨h1, h2⟩ := hn k l[k] s (List.getElem?_eq_getElem hlt)
    split at h
    · rename_i s' hs
      rw [dS (h1 s' hs)]
      exact YB mk step fin hn he m (k + 1) s' r (by omega) (by omega) h
    · rename_i x hs
      simp at h; subst h
      exact cM (h2 x hs)
    · cases h

theorem aBI {α S st R : Type} {body : S → Option (S ⊕ R)} {l : List α} (mk : st → Int → S) (step : st → α → Option (st ⊕ R)) (fin : st → R)
    (hn : ∀ (i : Nat) a s, l[i]? = some a → (∀ s', step s a = some (.inl s') → body (mk s i) = some (.inl (mk s' ((i + 1 : Nat) : Int)))) ∧ (∀ x, step s a = some (.inr x) → body (mk s i) = some (.inr x)))
    (he : ∀ s, body (mk s (l.length : Nat)) = some (.inr (fin s))) {s : st} {r : R} (h : zR step fin s l = some r) : lp body (mk s 0) = some r :=
  YB mk step fin hn he _ 0 s r rfl (Nat.zero_le _) (by simpa using h)

theorem idx {α : Type} [Inhabited α] {l : List α} {i : Nat} {a : α} (h : l[i]? = some a) (hl : l.length < 4611686018427387904) :
    decide ((i : Int) < ((l.length : Nat) : Int)) = true ∧ (0 ≤ (i : Int) ∧ (i : Int) < ((l.length : Nat) : Int)) ∧ l.getD (Int.toNat (i : Int)) default = a ∧ IntKind.i64.wrap ((i : Int) + 1) = ((i + 1 : Nat) : Int) := by
  have hlt : i < l.length := (List.getElem?_eq_some_iff.1 h).1
  refine ⟨by simpa using hlt, ⟨by omega, by omega⟩, ?_, ?_⟩
  · rw [Int.toNat_natCast, List.getD_eq_getElem?_getD, h]; rfl
  · rw [fA (by omega) (by omega)]; omega

theorem cY {n : Nat} : decide (((n : Nat) : Int) < ((n : Nat) : Int)) = false := by simp

end Go.Abs
namespace Go.Abs
open Go
theorem drop_cons {α : Type} {l r : List α} {a : α} {k : Nat} (h : l.drop k = a :: r) : l[k]? = some a ∧ l.drop (k + 1) = r := by
  have hk : k < l.length := by
    apply Classical.byContradiction; intro hn
    rw [List.drop_eq_nil_of_le (by omega)] at h; cases h
  rw [List.drop_eq_getElem_cons hk] at h
  obtain ⟨h1, h2⟩ := List.cons.inj h
  exact ⟨by rw [List.getElem?_eq_getElem hk, h1], h2⟩

theorem VO {α S st R : Type} {body : S → Option (S ⊕ R)} {l : List α} (mk : st → Int → S) (G : st → List α → R) (Inv : st → List α → Prop)
    (hn : ∀ (i : Nat) a r s, l[i]? = some a → Inv s (a :: r) → (∃ s', body (mk s i) = some (.inl (mk s' ((i + 1 : Nat) : Int))) ∧ Inv s' r ∧ G s' r = G s (a :: r)) ∨ body (mk s i) = some (.inr (G s (a :: r))))
    (he : ∀ s, Inv s [] → body (mk s (l.length : Nat)) = some (.inr (G s []))) : ∀ (r : List α) (k : Nat) (s : st), l.drop k = r → k ≤ l.length → Inv s r → lp body (mk s k) = some (G s r)
  | [], k, s, hd, hk, hi => by
    have : k = l.length := by
      have := congrArg List.length hd
      simp only [List.length_drop, List.length_nil] at this; omega
    subst this
    exact cM (he s hi)
  | a :: r, k, s, hd, hk, hi => by
    obtain ⟨h1, h2⟩ := drop_cons hd
    have hlt : k < l.length := (List.getElem?_eq_some_iff.1 h1).1
    rcases hn k a r s h1 hi with ⟨s', hb, hi', hg⟩ | hb
    · rw [dS hb, VO mk G Inv hn he r (k + 1) s' h2 (by omega) hi', hg]
    · exact cM hb

theorem mV {α S st R : Type} {body : S → Option (S ⊕ R)} {l : List α} (mk : st → Int → S) (G : st → List α → R) (Inv : st → List α → Prop) (s : st)
    (hn : ∀ (i : Nat) a r s, l[i]? = some a → Inv s (a :: r) → (∃ s', body (mk s i) = some (.inl (mk s' ((i + 1 : Nat) : Int))) ∧ Inv s' r ∧ G s' r = G s (a :: r)) ∨ body (mk s i) = some (.inr (G s (a :: r))))
    (he : ∀ s, Inv s [] → body (mk s (l.length : Nat)) = some (.inr (G s []))) (hi : Inv s l) : lp body (mk s 0) = some (G s l) :=
  VO mk G Inv hn he l 0 s rfl (Nat.zero_le _) hi

theorem CX {α S R : Type} {body : S → Option (S ⊕ R)} {l : List α} (mk : Int → S) (bad : α → Bool) (x y : R)
    (hn : ∀ (i : Nat) a, l[i]? = some a → body (mk i) = some (if bad a then .inr x else .inl (mk ((i + 1 : Nat) : Int))))
    (he : body (mk (l.length : Nat)) = some (.inr y)) : lp body (mk 0) = some (if l.any bad then x else y) := by
  refine mV (st := Unit) (fun _ i => mk i) (fun _ r => if r.any bad then x else y) (fun _ _ => True) () ?_ ?_ trivial
  · intro i a r s ha _
    have hb := hn i a ha
    cases h : bad a
    · left; refine ⟨(), ?_, trivial, ?_⟩
      · simpa [h] using hb
      · simp [List.any_cons, h]
    · right; simpa [h, List.any_cons] using hb
  · intro _ _; simpa using he

end Go.Abs
namespace Go.Abs
open Go
noncomputable def CU {α : Type} [Inhabited α] (cmp3 : α → α → Option Int) (aC : List α) (a1 : Int) (b2 : Int) (i8 : Int) : Option ((List α × Int) ⊕ ((List α))) :=
  some (.inl (aC, IntKind.i64.wrap (i8 + (1 : Int))))

noncomputable def nM {α : Type} [Inhabited α] (cmp3 : α → α → Option Int) (a1 : Int) (b2 : Int) (i8 : Int) (aC : List α) (j9 : Int) : Option ((List α × Int) ⊕ ((List α))) :=
  bI ((((decide (a1 < j9))) = true → 0 ≤ j9 ∧ j9 < ((List.length aC : Nat) : Int))) <|
  bI ((((decide (a1 < j9))) = true → 0 ≤ (IntKind.i64.wrap (j9 - (1 : Int))) ∧ (IntKind.i64.wrap (j9 - (1 : Int))) < ((List.length aC : Nat) : Int))) <|
  (dU (decide (a1 < j9)) (cmp3 (List.getD aC (Int.toNat j9) default) (List.getD aC (Int.toNat (IntKind.i64.wrap (j9 - (1 : Int)))) default))).bind fun x3 =>
  cond ((decide (a1 < j9)) && (decide (x3 < (0 : Int))))
  (bI (0 ≤ (IntKind.i64.wrap (j9 - (1 : Int))) ∧ (IntKind.i64.wrap (j9 - (1 : Int))) < ((List.length aC : Nat) : Int)) <|
  bI (0 ≤ j9 ∧ j9 < ((List.length aC : Nat) : Int)) <|
  bI (0 ≤ j9 ∧ j9 < ((List.length aC : Nat) : Int)) <|
  bI (0 ≤ (IntKind.i64.wrap (j9 - (1 : Int))) ∧ (IntKind.i64.wrap (j9 - (1 : Int))) < ((List.length aC : Nat) : Int)) <|
  some (.inl (List.set (List.set aC (Int.toNat j9) (List.getD aC (Int.toNat (IntKind.i64.wrap (j9 - (1 : Int)))) default)) (Int.toNat (IntKind.i64.wrap (j9 - (1 : Int)))) (List.getD aC (Int.toNat j9) default), IntKind.i64.wrap (j9 - (1 : Int)))))
  (some (.inr aC))

noncomputable def CV {α : Type} [Inhabited α] (cmp3 : α → α → Option Int) (aC : List α) (a1 : Int) (b2 : Int) (i8 : Int) (j9 : Int) : Option ((List α × Int) ⊕ ((List α))) :=
  (lp (fun s => nM cmp3 a1 b2 i8 s.1 s.2) (aC, j9)).bind (fun rr => CU cmp3 rr a1 b2 i8)

noncomputable def kS {α : Type} [Inhabited α] (cmp3 : α → α → Option Int) (a1 : Int) (b2 : Int) (aC : List α) (i8 : Int) : Option ((List α × Int) ⊕ ((List α))) :=
  cond (decide (i8 < b2))
  (CV cmp3 aC a1 b2 i8 i8)
  (some (.inr aC))

noncomputable def DB {α : Type} [Inhabited α] (cmp3 : α → α → Option Int) (aC : List α) (a1 : Int) (b2 : Int) (i8 : Int) : Option (List α) :=
  (lp (fun s => kS cmp3 a1 b2 s.1 s.2) (aC, i8)).bind (fun rr => some rr)

noncomputable def pG {α : Type} [Inhabited α] (aC : (List α)) (a1 : Int) (b2 : Int) (cmp3 : α → α → Option Int) : Option (List α) :=
  DB cmp3 aC a1 b2 (IntKind.i64.wrap (a1 + (1 : Int)))

noncomputable def rN {α : Type} [Inhabited α] (cmp4 : α → α → Option Int) (a1 : Int) (b2 : Int) (n3 : Int) (aC : List α) (i10 : Int) : Option ((List α × Int) ⊕ ((List α))) :=
  cond (decide (i10 < n3))
  (bI (0 ≤ (IntKind.i64.wrap (b2 + i10)) ∧ (IntKind.i64.wrap (b2 + i10)) < ((List.length aC : Nat) : Int)) <|
  bI (0 ≤ (IntKind.i64.wrap (a1 + i10)) ∧ (IntKind.i64.wrap (a1 + i10)) < ((List.length aC : Nat) : Int)) <|
  bI (0 ≤ (IntKind.i64.wrap (a1 + i10)) ∧ (IntKind.i64.wrap (a1 + i10)) < ((List.length aC : Nat) : Int)) <|
  bI (0 ≤ (IntKind.i64.wrap (b2 + i10)) ∧ (IntKind.i64.wrap (b2 + i10)) < ((List.length aC : Nat) : Int)) <|
  some (.inl (List.set (List.set aC (Int.toNat (IntKind.i64.wrap (a1 + i10))) (List.getD aC (Int.toNat (IntKind.i64.wrap (b2 + i10))) default)) (Int.toNat (IntKind.i64.wrap (b2 + i10))) (List.getD aC (Int.toNat (IntKind.i64.wrap (a1 + i10))) default), IntKind.i64.wrap (i10 + (1 : Int)))))
  (some (.inr aC))

noncomputable def GV {α : Type} [Inhabited α] (cmp4 : α → α → Option Int) (aC : List α) (a1 : Int) (b2 : Int) (n3 : Int) (i10 : Int) : Option (List α) :=
  (lp (fun s => rN cmp4 a1 b2 n3 s.1 s.2) (aC, i10)).bind (fun rr => some rr)

noncomputable def wT {α : Type} [Inhabited α] (aC : (List α)) (a1 : Int) (b2 : Int) (n3 : Int) (cmp4 : α → α → Option Int) : Option (List α) :=
  GV cmp4 aC a1 b2 n3 (0 : Int)

noncomputable def GH {α : Type} [Inhabited α] (cmp4 : α → α → Option Int) (aC : List α) (m2 : Int) (i10 : Int) : Option (List α) :=
  (wT aC (IntKind.i64.wrap (m2 - i10)) m2 i10 cmp4).bind fun x1 =>
  some x1

noncomputable def oC {α : Type} [Inhabited α] (cmp4 : α → α → Option Int) (m2 : Int) (aC : List α) (i10 : Int) (j11 : Int) : Option ((List α × Int × Int) ⊕ ((List α × Int))) :=
  cond (!decide (i10 = j11))
  (cond (decide (j11 < i10))
  ((wT aC (IntKind.i64.wrap (m2 - i10)) m2 j11 cmp4).bind fun x4 =>
  some (.inl (x4, IntKind.i64.wrap (i10 - j11), j11)))
  ((wT aC (IntKind.i64.wrap (m2 - i10)) (IntKind.i64.wrap ((IntKind.i64.wrap (m2 + j11)) - i10)) i10 cmp4).bind fun x7 =>
  some (.inl (x7, i10, IntKind.i64.wrap (j11 - i10)))))
  (some (.inr (aC, i10)))

noncomputable def MG {α : Type} [Inhabited α] (cmp4 : α → α → Option Int) (aC : List α) (m2 : Int) (i10 : Int) (j11 : Int) : Option (List α) :=
  (lp (fun s => oC cmp4 m2 s.1 s.2.1 s.2.2) (aC, i10, j11)).bind (fun rr => GH cmp4 rr.1 m2 rr.2)

noncomputable def EX {α : Type} [Inhabited α] (aC : (List α)) (a1 : Int) (m2 : Int) (b3 : Int) (cmp4 : α → α → Option Int) : Option (List α) :=
  MG cmp4 aC m2 (IntKind.i64.wrap (m2 - a1)) (IntKind.i64.wrap (b3 - m2))

noncomputable def DE {α : Type} [Inhabited α] (cmp4 : α → α → Option Int) (rec : (List α) → Int → Int → Int → Option (List α)) (aC : List α) (b3 : Int) (bY : Int) (eN : Int) : Option (List α) :=
  cond ((decide (bY < eN)) && (decide (eN < b3)))
  ((rec aC bY eN b3).bind fun x2 =>
  some x2)
  (some aC)

noncomputable def sX {α : Type} [Inhabited α] (cmp4 : α → α → Option Int) (rec : (List α) → Int → Int → Int → Option (List α)) (aC : List α) (a1 : Int) (b3 : Int) (bY : Int) (aZ : Int) (eN : Int) : Option (List α) :=
  cond ((decide (a1 < aZ)) && (decide (aZ < bY)))
  ((rec aC a1 aZ bY).bind fun x6 =>
  DE cmp4 rec x6 b3 bY eN)
  (DE cmp4 rec aC b3 bY eN)

noncomputable def IY {α : Type} [Inhabited α] (cmp4 : α → α → Option Int) (rec : (List α) → Int → Int → Int → Option (List α)) (aC : List α) (a1 : Int) (m2 : Int) (b3 : Int) (bY : Int) (n19 : Int) (aZ : Int) : Option (List α) :=
  cond ((decide (aZ < m2)) && (decide (m2 < (IntKind.i64.wrap (n19 - aZ)))))
  ((EX aC aZ m2 (IntKind.i64.wrap (n19 - aZ)) cmp4).bind fun x10 =>
  sX cmp4 rec x10 a1 b3 bY aZ (IntKind.i64.wrap (n19 - aZ)))
  (sX cmp4 rec aC a1 b3 bY aZ (IntKind.i64.wrap (n19 - aZ)))

noncomputable def qR {α : Type} [Inhabited α] (cmp4 : α → α → Option Int) (rec : (List α) → Int → Int → Int → Option (List α)) (a1 : Int) (m2 : Int) (b3 : Int) (bY : Int) (n19 : Int) (p22 : Int) (aC : List α) (aZ : Int) (r21 : Int) : Option ((List α × Int × Int) ⊕ ((List α × Int))) :=
  cond (decide (aZ < r21))
  (bI (0 ≤ (1 : Int)) <|
  bI (0 ≤ (IntKind.i64.wrap (p22 - (IntKind.i64.wrap (Int.fdiv (IntKind.u64.wrap (IntKind.i64.wrap (aZ + r21))) (2 ^ (min (Int.toNat (1 : Int)) 64)))))) ∧ (IntKind.i64.wrap (p22 - (IntKind.i64.wrap (Int.fdiv (IntKind.u64.wrap (IntKind.i64.wrap (aZ + r21))) (2 ^ (min (Int.toNat (1 : Int)) 64)))))) < ((List.length aC : Nat) : Int)) <|
  bI (0 ≤ (IntKind.i64.wrap (Int.fdiv (IntKind.u64.wrap (IntKind.i64.wrap (aZ + r21))) (2 ^ (min (Int.toNat (1 : Int)) 64)))) ∧ (IntKind.i64.wrap (Int.fdiv (IntKind.u64.wrap (IntKind.i64.wrap (aZ + r21))) (2 ^ (min (Int.toNat (1 : Int)) 64)))) < ((List.length aC : Nat) : Int)) <|
  (cmp4 (List.getD aC (Int.toNat (IntKind.i64.wrap (p22 - (IntKind.i64.wrap (Int.fdiv (IntKind.u64.wrap (IntKind.i64.wrap (aZ + r21))) (2 ^ (min (Int.toNat (1 : Int)) 64))))))) default) (List.getD aC (Int.toNat (IntKind.i64.wrap (Int.fdiv (IntKind.u64.wrap (IntKind.i64.wrap (aZ + r21))) (2 ^ (min (Int.toNat (1 : Int)) 64))))) default)).bind fun x17 =>
  cond (!(decide (x17 < (0 : Int))))
  (some (.inl (aC, IntKind.i64.wrap ((IntKind.i64.wrap (Int.fdiv (IntKind.u64.wrap (IntKind.i64.wrap (aZ + r21))) (2 ^ (min (Int.toNat (1 : Int)) 64)))) + (1 : Int)), r21)))
  (some (.inl (aC, aZ, IntKind.i64.wrap (Int.fdiv (IntKind.u64.wrap (IntKind.i64.wrap (aZ + r21))) (2 ^ (min (Int.toNat (1 : Int)) 64)))))))
  (some (.inr (aC, aZ)))

noncomputable def IL {α : Type} [Inhabited α] (cmp4 : α → α → Option Int) (rec : (List α) → Int → Int → Int → Option (List α)) (aC : List α) (a1 : Int) (m2 : Int) (b3 : Int) (bY : Int) (n19 : Int) (aZ : Int) (r21 : Int) (p22 : Int) : Option (List α) :=
  (lp (fun s => qR cmp4 rec a1 m2 b3 bY n19 p22 s.1 s.2.1 s.2.2) (aC, aZ, r21)).bind (fun rr => IY cmp4 rec rr.1 a1 m2 b3 bY n19 rr.2)

noncomputable def zA {α : Type} [Inhabited α] (cmp4 : α → α → Option Int) (rec : (List α) → Int → Int → Int → Option (List α)) (aC : List α) (a1 : Int) (m2 : Int) (b3 : Int) (bY : Int) (n19 : Int) (aZ : Int) (r21 : Int) : Option (List α) :=
  IL cmp4 rec aC a1 m2 b3 bY n19 aZ r21 (IntKind.i64.wrap (n19 - (1 : Int)))

noncomputable def zC {α : Type} [Inhabited α] (cmp4 : α → α → Option Int) (rec : (List α) → Int → Int → Int → Option (List α)) (aC : List α) (a1 : Int) (m2 : Int) (b3 : Int) : Option (List α) :=
  bI (0 ≤ (1 : Int)) <|
  cond (decide ((IntKind.i64.wrap (Int.fdiv (IntKind.u64.wrap (IntKind.i64.wrap (a1 + b3))) (2 ^ (min (Int.toNat (1 : Int)) 64)))) < m2))
  (zA cmp4 rec aC a1 m2 b3 (IntKind.i64.wrap (Int.fdiv (IntKind.u64.wrap (IntKind.i64.wrap (a1 + b3))) (2 ^ (min (Int.toNat (1 : Int)) 64)))) (IntKind.i64.wrap ((IntKind.i64.wrap (Int.fdiv (IntKind.u64.wrap (IntKind.i64.wrap (a1 + b3))) (2 ^ (min (Int.toNat (1 : Int)) 64)))) + m2)) (IntKind.i64.wrap ((IntKind.i64.wrap ((IntKind.i64.wrap (Int.fdiv (IntKind.u64.wrap (IntKind.i64.wrap (a1 + b3))) (2 ^ (min (Int.toNat (1 : Int)) 64)))) + m2)) - b3)) (IntKind.i64.wrap (Int.fdiv (IntKind.u64.wrap (IntKind.i64.wrap (a1 + b3))) (2 ^ (min (Int.toNat (1 : Int)) 64)))))
  (zA cmp4 rec aC a1 m2 b3 (IntKind.i64.wrap (Int.fdiv (IntKind.u64.wrap (IntKind.i64.wrap (a1 + b3))) (2 ^ (min (Int.toNat (1 : Int)) 64)))) (IntKind.i64.wrap ((IntKind.i64.wrap (Int.fdiv (IntKind.u64.wrap (IntKind.i64.wrap (a1 + b3))) (2 ^ (min (Int.toNat (1 : Int)) 64)))) + m2)) a1 m2)

noncomputable def IU {α : Type} [Inhabited α] (cmp4 : α → α → Option Int) (rec : (List α) → Int → Int → Int → Option (List α)) (aC : List α) : Option (List α) :=
  some aC

noncomputable def pP {α : Type} [Inhabited α] (cmp4 : α → α → Option Int) (rec : (List α) → Int → Int → Int → Option (List α)) (i14 : Int) (aC : List α) (k17 : Int) : Option ((List α × Int) ⊕ ((List α))) :=
  cond (decide (i14 < k17))
  (bI (0 ≤ (IntKind.i64.wrap (k17 - (1 : Int))) ∧ (IntKind.i64.wrap (k17 - (1 : Int))) < ((List.length aC : Nat) : Int)) <|
  bI (0 ≤ k17 ∧ k17 < ((List.length aC : Nat) : Int)) <|
  bI (0 ≤ k17 ∧ k17 < ((List.length aC : Nat) : Int)) <|
  bI (0 ≤ (IntKind.i64.wrap (k17 - (1 : Int))) ∧ (IntKind.i64.wrap (k17 - (1 : Int))) < ((List.length aC : Nat) : Int)) <|
  some (.inl (List.set (List.set aC (Int.toNat k17) (List.getD aC (Int.toNat (IntKind.i64.wrap (k17 - (1 : Int)))) default)) (Int.toNat (IntKind.i64.wrap (k17 - (1 : Int)))) (List.getD aC (Int.toNat k17) default), IntKind.i64.wrap (k17 - (1 : Int)))))
  (some (.inr aC))

noncomputable def HB {α : Type} [Inhabited α] (cmp4 : α → α → Option Int) (rec : (List α) → Int → Int → Int → Option (List α)) (aC : List α) (i14 : Int) (k17 : Int) : Option (List α) :=
  (lp (fun s => pP cmp4 rec i14 s.1 s.2) (aC, k17)).bind (fun rr => IU cmp4 rec rr)

noncomputable def IT {α : Type} [Inhabited α] (cmp4 : α → α → Option Int) (rec : (List α) → Int → Int → Int → Option (List α)) (aC : List α) (m2 : Int) (i14 : Int) : Option (List α) :=
  HB cmp4 rec aC i14 m2

noncomputable def pI {α : Type} [Inhabited α] (cmp4 : α → α → Option Int) (rec : (List α) → Int → Int → Int → Option (List α)) (m2 : Int) (aC : List α) (i14 : Int) (j15 : Int) : Option ((List α × Int × Int) ⊕ ((List α × Int))) :=
  cond (decide (i14 < j15))
  (bI (0 ≤ (1 : Int)) <|
  bI (0 ≤ m2 ∧ m2 < ((List.length aC : Nat) : Int)) <|
  bI (0 ≤ (IntKind.i64.wrap (Int.fdiv (IntKind.u64.wrap (IntKind.i64.wrap (i14 + j15))) (2 ^ (min (Int.toNat (1 : Int)) 64)))) ∧ (IntKind.i64.wrap (Int.fdiv (IntKind.u64.wrap (IntKind.i64.wrap (i14 + j15))) (2 ^ (min (Int.toNat (1 : Int)) 64)))) < ((List.length aC : Nat) : Int)) <|
  (cmp4 (List.getD aC (Int.toNat m2) default) (List.getD aC (Int.toNat (IntKind.i64.wrap (Int.fdiv (IntKind.u64.wrap (IntKind.i64.wrap (i14 + j15))) (2 ^ (min (Int.toNat (1 : Int)) 64))))) default)).bind fun x31 =>
  cond (!(decide (x31 < (0 : Int))))
  (some (.inl (aC, IntKind.i64.wrap ((IntKind.i64.wrap (Int.fdiv (IntKind.u64.wrap (IntKind.i64.wrap (i14 + j15))) (2 ^ (min (Int.toNat (1 : Int)) 64)))) + (1 : Int)), j15)))
  (some (.inl (aC, i14, IntKind.i64.wrap (Int.fdiv (IntKind.u64.wrap (IntKind.i64.wrap (i14 + j15))) (2 ^ (min (Int.toNat (1 : Int)) 64)))))))
  (some (.inr (aC, i14)))

noncomputable def GX {α : Type} [Inhabited α] (cmp4 : α → α → Option Int) (rec : (List α) → Int → Int → Int → Option (List α)) (aC : List α) (m2 : Int) (i14 : Int) (j15 : Int) : Option (List α) :=
  (lp (fun s => pI cmp4 rec m2 s.1 s.2.1 s.2.2) (aC, i14, j15)).bind (fun rr => IT cmp4 rec rr.1 m2 rr.2)

noncomputable def DH {α : Type} [Inhabited α] (cmp4 : α → α → Option Int) (rec : (List α) → Int → Int → Int → Option (List α)) (aC : List α) (a1 : Int) (m2 : Int) (b3 : Int) : Option (List α) :=
  cond (decide ((IntKind.i64.wrap (b3 - m2)) = (1 : Int)))
  (GX cmp4 rec aC m2 a1 m2)
  (zC cmp4 rec aC a1 m2 b3)

noncomputable def GS {α : Type} [Inhabited α] (cmp4 : α → α → Option Int) (rec : (List α) → Int → Int → Int → Option (List α)) (aC : List α) : Option (List α) :=
  some aC

noncomputable def pK {α : Type} [Inhabited α] (cmp4 : α → α → Option Int) (rec : (List α) → Int → Int → Int → Option (List α)) (i10 : Int) (aC : List α) (k13 : Int) : Option ((List α × Int) ⊕ ((List α))) :=
  cond (decide (k13 < (IntKind.i64.wrap (i10 - (1 : Int)))))
  (bI (0 ≤ (IntKind.i64.wrap (k13 + (1 : Int))) ∧ (IntKind.i64.wrap (k13 + (1 : Int))) < ((List.length aC : Nat) : Int)) <|
  bI (0 ≤ k13 ∧ k13 < ((List.length aC : Nat) : Int)) <|
  bI (0 ≤ k13 ∧ k13 < ((List.length aC : Nat) : Int)) <|
  bI (0 ≤ (IntKind.i64.wrap (k13 + (1 : Int))) ∧ (IntKind.i64.wrap (k13 + (1 : Int))) < ((List.length aC : Nat) : Int)) <|
  some (.inl (List.set (List.set aC (Int.toNat k13) (List.getD aC (Int.toNat (IntKind.i64.wrap (k13 + (1 : Int)))) default)) (Int.toNat (IntKind.i64.wrap (k13 + (1 : Int)))) (List.getD aC (Int.toNat k13) default), IntKind.i64.wrap (k13 + (1 : Int)))))
  (some (.inr aC))

noncomputable def GZ {α : Type} [Inhabited α] (cmp4 : α → α → Option Int) (rec : (List α) → Int → Int → Int → Option (List α)) (aC : List α) (i10 : Int) (k13 : Int) : Option (List α) :=
  (lp (fun s => pK cmp4 rec i10 s.1 s.2) (aC, k13)).bind (fun rr => GS cmp4 rec rr)

noncomputable def GU {α : Type} [Inhabited α] (cmp4 : α → α → Option Int) (rec : (List α) → Int → Int → Int → Option (List α)) (aC : List α) (a1 : Int) (i10 : Int) : Option (List α) :=
  GZ cmp4 rec aC i10 a1

noncomputable def pL {α : Type} [Inhabited α] (cmp4 : α → α → Option Int) (rec : (List α) → Int → Int → Int → Option (List α)) (a1 : Int) (aC : List α) (i10 : Int) (j11 : Int) : Option ((List α × Int × Int) ⊕ ((List α × Int))) :=
  cond (decide (i10 < j11))
  (bI (0 ≤ (1 : Int)) <|
  bI (0 ≤ (IntKind.i64.wrap (Int.fdiv (IntKind.u64.wrap (IntKind.i64.wrap (i10 + j11))) (2 ^ (min (Int.toNat (1 : Int)) 64)))) ∧ (IntKind.i64.wrap (Int.fdiv (IntKind.u64.wrap (IntKind.i64.wrap (i10 + j11))) (2 ^ (min (Int.toNat (1 : Int)) 64)))) < ((List.length aC : Nat) : Int)) <|
  bI (0 ≤ a1 ∧ a1 < ((List.length aC : Nat) : Int)) <|
  (cmp4 (List.getD aC (Int.toNat (IntKind.i64.wrap (Int.fdiv (IntKind.u64.wrap (IntKind.i64.wrap (i10 + j11))) (2 ^ (min (Int.toNat (1 : Int)) 64))))) default) (List.getD aC (Int.toNat a1) default)).bind fun x45 =>
  cond (decide (x45 < (0 : Int)))
  (some (.inl (aC, IntKind.i64.wrap ((IntKind.i64.wrap (Int.fdiv (IntKind.u64.wrap (IntKind.i64.wrap (i10 + j11))) (2 ^ (min (Int.toNat (1 : Int)) 64)))) + (1 : Int)), j11)))
  (some (.inl (aC, i10, IntKind.i64.wrap (Int.fdiv (IntKind.u64.wrap (IntKind.i64.wrap (i10 + j11))) (2 ^ (min (Int.toNat (1 : Int)) 64)))))))
  (some (.inr (aC, i10)))

noncomputable def GJ {α : Type} [Inhabited α] (cmp4 : α → α → Option Int) (rec : (List α) → Int → Int → Int → Option (List α)) (aC : List α) (a1 : Int) (i10 : Int) (j11 : Int) : Option (List α) :=
  (lp (fun s => pL cmp4 rec a1 s.1 s.2.1 s.2.2) (aC, i10, j11)).bind (fun rr => GU cmp4 rec rr.1 a1 rr.2)

noncomputable def eO {α : Type} [Inhabited α] (cmp4 : α → α → Option Int) (rec : (List α) → Int → Int → Int → Option (List α)) (aC : (List α)) (a1 : Int) (m2 : Int) (b3 : Int) : Option (List α) :=
  cond (decide ((IntKind.i64.wrap (m2 - a1)) = (1 : Int)))
  (GJ cmp4 rec aC a1 m2 b3)
  (DH cmp4 rec aC a1 m2 b3)

noncomputable def eR {α : Type} [Inhabited α] (cmp4 : α → α → Option Int) : Nat → (List α) → Int → Int → Int → Option (List α)
  | 0 => fun _ _ _ _ => none
  | k + 1 => eO cmp4 (eR cmp4 k)

noncomputable def rF {α : Type} [Inhabited α] (aC : (List α)) (a1 : Int) (m2 : Int) (b3 : Int) (cmp4 : α → α → Option Int) : Option (List α) := MP (fun k => eR cmp4 k aC a1 m2 b3)

noncomputable def CG {α : Type} [Inhabited α] (cmp2 : α → α → Option Int) (aC : List α) (n1 : Int) (aQ : Int) : Option ((List α × Int) ⊕ ((List α))) :=
  some (.inl (aC, IntKind.i64.wrap (aQ * (2 : Int))))

noncomputable def yK {α : Type} [Inhabited α] (cmp2 : α → α → Option Int) (aC : List α) (n1 : Int) (aQ : Int) (a7 : Int) : Option ((List α × Int) ⊕ ((List α))) :=
  cond (decide ((IntKind.i64.wrap (a7 + aQ)) < n1))
  ((rF aC a7 (IntKind.i64.wrap (a7 + aQ)) n1 cmp2).bind fun x4 =>
  CG cmp2 x4 n1 aQ)
  (CG cmp2 aC n1 aQ)

noncomputable def oD {α : Type} [Inhabited α] (cmp2 : α → α → Option Int) (n1 : Int) (aQ : Int) (aC : List α) (a7 : Int) (b8 : Int) : Option ((List α × Int × Int) ⊕ ((List α × Int))) :=
  cond (decide (b8 ≤ n1))
  ((rF aC a7 (IntKind.i64.wrap (a7 + aQ)) b8 cmp2).bind fun x8 =>
  some (.inl (x8, b8, IntKind.i64.wrap (b8 + (IntKind.i64.wrap ((2 : Int) * aQ))))))
  (some (.inr (aC, a7)))

noncomputable def yI {α : Type} [Inhabited α] (cmp2 : α → α → Option Int) (aC : List α) (n1 : Int) (aQ : Int) (a7 : Int) (b8 : Int) : Option ((List α × Int) ⊕ ((List α))) :=
  (lp (fun s => oD cmp2 n1 aQ s.1 s.2.1 s.2.2) (aC, a7, b8)).bind (fun rr => yK cmp2 rr.1 n1 aQ rr.2)

noncomputable def kX {α : Type} [Inhabited α] (cmp2 : α → α → Option Int) (n1 : Int) (aC : List α) (aQ : Int) : Option ((List α × Int) ⊕ ((List α))) :=
  cond (decide (aQ < n1))
  (yI cmp2 aC n1 aQ (0 : Int) (IntKind.i64.wrap ((2 : Int) * aQ)))
  (some (.inr aC))

noncomputable def CJ {α : Type} [Inhabited α] (cmp2 : α → α → Option Int) (aC : List α) (n1 : Int) (aQ : Int) : Option (List α) :=
  (lp (fun s => kX cmp2 n1 s.1 s.2) (aC, aQ)).bind (fun rr => some rr)

noncomputable def CF {α : Type} [Inhabited α] (cmp2 : α → α → Option Int) (aC : List α) (n1 : Int) (aQ : Int) (a7 : Int) : Option (List α) :=
  (pG aC a7 n1 cmp2).bind fun x1 =>
  CJ cmp2 x1 n1 aQ

noncomputable def nZ {α : Type} [Inhabited α] (cmp2 : α → α → Option Int) (n1 : Int) (aQ : Int) (aC : List α) (a7 : Int) (b8 : Int) : Option ((List α × Int × Int) ⊕ ((List α × Int))) :=
  cond (decide (b8 ≤ n1))
  ((pG aC a7 b8 cmp2).bind fun x13 =>
  some (.inl (x13, b8, IntKind.i64.wrap (b8 + aQ))))
  (some (.inr (aC, a7)))

noncomputable def CQ {α : Type} [Inhabited α] (cmp2 : α → α → Option Int) (aC : List α) (n1 : Int) (aQ : Int) (a7 : Int) (b8 : Int) : Option (List α) :=
  (lp (fun s => nZ cmp2 n1 aQ s.1 s.2.1 s.2.2) (aC, a7, b8)).bind (fun rr => CF cmp2 rr.1 n1 aQ rr.2)

noncomputable def AI {α : Type} [Inhabited α] (aC : (List α)) (n1 : Int) (cmp2 : α → α → Option Int) : Option (List α) :=
  CQ cmp2 aC n1 (20 : Int) (0 : Int) (20 : Int)

end Go.Abs
namespace Go.Abs
open Go
variable {α : Type} [Inhabited α]
structure Cmp {β : Type} (ok : β → Prop) (le : β → β → Prop) (cmp : β → β → Option Int) : Prop where
  ans : ∀ x y, ok x → ok y → ∃ v, cmp x y = some v ∧ (v < 0 ↔ ¬ le y x)
  trans : ∀ x y z, ok x → ok y → ok z → le x y → le y z → le x z
  total : ∀ x y, ok x → ok y → le x y ∨ le y x

abbrev Srt {β : Type} (le : β → β → Prop) (l : List β) : Prop := l.Pairwise le

abbrev Oks {β : Type} (ok : β → Prop) (l : List β) : Prop := ∀ x ∈ l, ok x

theorem aCp {Q R : List α} {x : α} : (Q ++ x :: R).getD Q.length default = x := by simp [List.getD_eq_getElem?_getD]

theorem aDi {β : Type} {Q R : List β} {x y : β} : (Q ++ x :: R).set Q.length y = Q ++ y :: R := by simp

theorem sU {Q R d : List α} {x : α} {n : Nat} (hd : d = Q ++ x :: R) (hn : n = Q.length) : d.getD n default = x := by subst hd; subst hn; exact aCp

theorem GM {β : Type} {Q R d : List β} {x y : β} {n : Nat} (hd : d = Q ++ x :: R) (hn : n = Q.length) : d.set n y = Q ++ y :: R := by subst hd; subst hn; exact aDi

theorem wr {n : Int} (h1 : -1099511627776 ≤ n) (h2 : n ≤ 8796093022208) : IntKind.i64.wrap n = n := fA (by omega) (by omega)

theorem VA {β : Type} {Q M R d : List β} {x y : β} {a b : Nat} (hd : d = Q ++ x :: (M ++ y :: R)) (ha : a = Q.length) (hb : b = Q.length + 1 + M.length) : (d.set a y).set b x = Q ++ y :: (M ++ x :: R) := by
  rw [GM hd ha, GM (Q := Q ++ y :: M) (x := y) (R := R) (by simp) (by simp; omega)]
  simp

section ins
variable {ok : α → Prop} {le : α → α → Prop} {cmp : α → α → Option Int}
theorem IW {A T : List α} {x : α} {a b i : Int} {P : List α} (ha : a = (P.length : Nat)) (hl : (P ++ A ++ x :: T).length ≤ 1099511627776)
    (hs : A = [] ∨ ∃ A' y v, A = A' ++ [y] ∧ cmp x y = some v ∧ ¬ v < 0) : nM cmp a b i (P ++ A ++ x :: T) ((P.length + A.length : Nat) : Int) = some (.inr (P ++ A ++ x :: T)) := by
  simp only [List.length_append, List.length_cons] at hl
  unfold nM
  rcases hs with rfl | ⟨A', y, v, rfl, hc, hv⟩
  · have h : decide (a < ((P.length + ([] : List α).length : Nat) : Int)) = false := by subst ha; simp
    rw [h, aT (fun h => by cases h), aT (fun h => by cases h)]
    simp [dU]
  · simp only [List.length_append, List.length_cons, List.length_nil] at hl ⊢
    have h : decide (a < ((P.length + (A'.length + (0 + 1)) : Nat) : Int)) = true := by subst ha; simp; omega
    have hw : IntKind.i64.wrap (((P.length + (A'.length + (0 + 1)) : Nat) : Int) - 1) = ((P.length + A'.length : Nat) : Int) := by rw [wr (by omega) (by omega)]; omega
    have g1 : (P ++ (A' ++ [y]) ++ x :: T).getD (P.length + (A'.length + (0 + 1))) default = x := sU (Q := P ++ (A' ++ [y])) rfl (by simp)
    have g2 : (P ++ (A' ++ [y]) ++ x :: T).getD (P.length + A'.length) default = y := sU (Q := P ++ A') (R := x :: T) (by simp) (by simp)
    rw [h, hw, aT (fun _ => ⟨by omega, by omega⟩), aT (fun _ => ⟨by omega, by omega⟩)]
    rw [Int.toNat_natCast, Int.toNat_natCast, g1, g2]
    simp [dU, hc, hv]

theorem XO {A T : List α} {x y : α} {v : Int} {a b i : Int} {P : List α} (ha : a = (P.length : Nat)) (hl : (P ++ (A ++ [y]) ++ x :: T).length ≤ 1099511627776)
    (hc : cmp x y = some v) (hv : v < 0) : nM cmp a b i (P ++ (A ++ [y]) ++ x :: T) ((P.length + (A ++ [y]).length : Nat) : Int) = some (.inl (P ++ A ++ x :: (y :: T), ((P.length + A.length : Nat) : Int))) := by
  simp only [List.length_append, List.length_cons, List.length_nil] at hl ⊢
  unfold nM
  have h : decide (a < ((P.length + (A.length + (0 + 1)) : Nat) : Int)) = true := by subst ha; simp; omega
  have hw : IntKind.i64.wrap (((P.length + (A.length + (0 + 1)) : Nat) : Int) - 1) = ((P.length + A.length : Nat) : Int) := by rw [wr (by omega) (by omega)]; omega
  have g1 : (P ++ (A ++ [y]) ++ x :: T).getD (P.length + (A.length + (0 + 1))) default = x := sU (Q := P ++ (A ++ [y])) rfl (by simp)
  have g2 : (P ++ (A ++ [y]) ++ x :: T).getD (P.length + A.length) default = y := sU (Q := P ++ A) (R := x :: T) (by simp) (by simp)
  have hs : ((P ++ (A ++ [y]) ++ x :: T).set (P.length + (A.length + (0 + 1))) y).set (P.length + A.length) x = P ++ A ++ x :: (y :: T) := by
    rw [GM (Q := P ++ (A ++ [y])) (x := x) (R := T) rfl (by simp), GM (Q := P ++ A) (x := y) (R := y :: T) (by simp) (by simp)]
  have b1 : 0 ≤ ((P.length + (A.length + (0 + 1)) : Nat) : Int) ∧ ((P.length + (A.length + (0 + 1)) : Nat) : Int) < ((List.length (P ++ (A ++ [y]) ++ x :: T) : Nat) : Int) := ⟨by omega, by simp only [List.length_append, List.length_cons, List.length_nil]; omega⟩
  have b2 : 0 ≤ ((P.length + A.length : Nat) : Int) ∧ ((P.length + A.length : Nat) : Int) < ((List.length (P ++ (A ++ [y]) ++ x :: T) : Nat) : Int) := ⟨by omega, by simp only [List.length_append, List.length_cons, List.length_nil]; omega⟩
  rw [h, hw, aT (fun _ => b1), aT (fun _ => b2), Int.toNat_natCast, Int.toNat_natCast, g1, g2]
  simp only [dU, cond_true, hc, Option.bind_some, Bool.true_and, decide_eq_true hv]
  rw [aT b2, aT b1, aT b1, aT b2, hs]

theorem aBm (C : Cmp ok le cmp) {x : α} (hx : ok x) {a b i : Int} {P : List α} (ha : a = (P.length : Nat)) : ∀ (n : Nat) (A B T : List α), A.length = n → Oks ok A → Oks ok B → Srt le (A ++ B) → (∀ y ∈ B, ¬ le y x) → (P ++ A ++ x :: (B ++ T)).length ≤ 1099511627776 →
    ∃ D, D.Perm (A ++ x :: B) ∧ Srt le D ∧ lp (fun s : List α × Int => nM cmp a b i s.1 s.2) (P ++ A ++ x :: (B ++ T), ((P.length + A.length : Nat) : Int)) = some (P ++ D ++ T) := by
  intro n
  induction n with
  | zero =>
    intro A B T hn _ hB hs hlt hl
    have hA : A = [] := List.length_eq_zero_iff.1 hn
    subst hA
    refine ⟨x :: B, List.Perm.refl _, ?_, ?_⟩
    · refine List.pairwise_cons.2 ⟨fun y hy => ?_, by simpa using hs⟩
      rcases C.total x y hx (hB y hy) with h | h
      · exact h
      · exact absurd h (hlt y hy)
    · rw [cM (IW ha hl (Or.inl rfl))]; simp
  | succ n ih =>
    intro A B T hn hA hB hs hlt hl
    obtain ⟨A', y, rfl⟩ : ∃ A' y, A = A' ++ [y] := by
      rcases List.eq_nil_or_concat A with h | ⟨A', y, h⟩
      · rw [h] at hn; simp at hn
      · exact ⟨A', y, by simpa using h⟩
    have hy : ok y := hA y (by simp)
    obtain ⟨v, hc, hv⟩ := C.ans x y hx hy
    by_cases hneg : v < 0
    · have hb := XO (i := i) (b := b) ha hl hc hneg
      have hl' : (P ++ A' ++ x :: ((y :: B) ++ T)).length ≤ 1099511627776 := by
        simp only [List.length_append, List.length_cons, List.length_nil] at hl ⊢; omega
      obtain ⟨D, d1, d2, d3⟩ := ih A' (y :: B) T (by simpa using hn) (fun z hz => hA z (by simp [hz])) (fun z hz => by rcases List.mem_cons.1 hz with rfl | hz; exact hy; exact hB z hz) (by simpa using hs)
        (fun z hz => by rcases List.mem_cons.1 hz with rfl | hz; exact hv.1 hneg; exact hlt z hz) hl'
      refine ⟨D, d1.trans ?_, d2, ?_⟩
      · simp only [List.append_assoc, List.singleton_append]
        exact List.Perm.append_left _ (List.Perm.swap ..)
      · rw [dS hb]; simpa using d3
    · refine ⟨A' ++ [y] ++ x :: B, List.Perm.refl _, ?_, ?_⟩
      · have hyx : le y x := Classical.byContradiction fun h => hneg (hv.2 h)
        simp only [Srt, List.pairwise_append] at hs ⊢
        obtain ⟨s1, s2, s3⟩ := hs
        refine ⟨s1, List.pairwise_cons.2 ⟨fun z hz => ?_, s2⟩, ?_⟩
        · rcases C.total x z hx (hB z hz) with h | h
          · exact h
          · exact absurd h (hlt z hz)
        · intro z hz w hw
          rcases List.mem_cons.1 hw with rfl | hw
          · rcases List.mem_append.1 hz with hz' | hz'
            · exact C.trans z y w (hA z hz) hy hx (s1.2.2 z hz' y (by simp)) hyx
            · rw [List.mem_singleton] at hz'; subst hz'; exact hyx
          · exact s3 z hz w hw
      · rw [cM (IW ha hl (Or.inr ⟨A', y, v, rfl, hc, hneg⟩))]
        simp

theorem RG (C : Cmp ok le cmp) {a b : Int} {P : List α} (ha : a = (P.length : Nat)) : ∀ (B A T : List α), Oks ok A → Oks ok B → Srt le A → b = ((P.length + A.length + B.length : Nat) : Int) → (P ++ A ++ (B ++ T)).length ≤ 1099511627776 →
    ∃ D, D.Perm (A ++ B) ∧ Srt le D ∧ lp (fun s : List α × Int => kS cmp a b s.1 s.2) (P ++ A ++ (B ++ T), ((P.length + A.length : Nat) : Int)) = some (P ++ D ++ T)
  | [], A, T, _, _, hs, hb, _ => by
    refine ⟨A, by simp, hs, cM ?_⟩
    have : decide (((P.length + A.length : Nat) : Int) < b) = false := by subst hb; simp
    simp only [kS, this, cond_false, List.nil_append]
  | x :: B, A, T, hA, hB, hs, hb, hl => by
    obtain ⟨D, d1, d2, d3⟩ := aBm C (hB x (by simp)) (b := b) (i := ((P.length + A.length : Nat) : Int)) ha A.length A [] (B ++ T) rfl hA (by intro z hz; simp at hz) (by simpa using hs) (by simp) (by simpa using hl)
    have hD : D.length = A.length + 1 := by rw [d1.length_eq]; simp
    have hlt : decide (((P.length + A.length : Nat) : Int) < b) = true := by subst hb; simp; omega
    have hbod : (fun s : List α × Int => kS cmp a b s.1 s.2) (P ++ A ++ (x :: B ++ T), ((P.length + A.length : Nat) : Int)) = some (.inl (P ++ D ++ (B ++ T), ((P.length + D.length : Nat) : Int))) := by
      show kS cmp a b _ _ = _
      simp only [kS, hlt, cond_true, CV]
      rw [show P ++ A ++ (x :: B ++ T) = P ++ A ++ x :: ([] ++ (B ++ T)) by simp, d3]
      simp only [Option.bind_some, CU]
      rw [wr (by omega) (by simp only [List.length_append, List.length_cons] at hl; omega), hD]
      congr 1
    have hl' : (P ++ D ++ (B ++ T)).length ≤ 1099511627776 := by simp only [List.length_append, List.length_cons] at hl ⊢; omega
    obtain ⟨E, e1, e2, e3⟩ := RG C (b := b) ha B D T (fun z hz => by
      have := d1.mem_iff.1 hz
      rcases List.mem_append.1 this with h | h
      · exact hA z h
      · rw [List.mem_singleton] at h; subst h; exact hB z (by simp)) (fun z hz => hB z (by simp [hz])) d2 (by rw [hb]; simp only [List.length_cons]; congr 1; omega) hl'
    refine ⟨E, e1.trans ?_, e2, by rw [dS hbod]; exact e3⟩
    have := d1.append_right B
    simpa using this

theorem aAr (C : Cmp ok le cmp) {P A T : List α} {a b : Int} (ha : a = (P.length : Nat)) (hb : b = ((P.length + A.length : Nat) : Int)) (hA : Oks ok A) (hl : (P ++ A ++ T).length ≤ 1099511627776) :
    ∃ D, D.Perm A ∧ Srt le D ∧ pG (P ++ A ++ T) a b cmp = some (P ++ D ++ T) := by
  unfold pG DB
  simp only [List.length_append] at hl
  cases A with
  | nil =>
    refine ⟨[], List.Perm.refl _, List.Pairwise.nil, ?_⟩
    rw [cM (r := P ++ [] ++ T)]
    · rfl
    · have : decide (IntKind.i64.wrap (a + 1) < b) = false := by
        rw [wr (by omega) (by omega)]; subst ha; subst hb; simp; omega
      simp only [kS, this, cond_false]
  | cons x A =>
    simp only [List.length_cons] at hl
    have hw : IntKind.i64.wrap (a + 1) = ((P.length + [x].length : Nat) : Int) := by rw [wr (by omega) (by omega)]; subst ha; simp
    obtain ⟨D, d1, d2, d3⟩ := RG C (b := b) ha A [x] T (fun z hz => by rw [List.mem_singleton] at hz; subst hz; exact hA z (by simp)) (fun z hz => hA z (by simp [hz])) (by simp) (by rw [hb]; simp only [List.length_cons, List.length_nil]; congr 1; omega) (by simp only [List.length_append, List.length_cons, List.length_nil]; omega)
    refine ⟨D, by simpa using d1, d2, ?_⟩
    rw [hw, show P ++ x :: A ++ T = P ++ [x] ++ (A ++ T) by simp, d3]
    rfl

end ins
theorem JD {cmp : α → α → Option Int} {a b n : Int} : ∀ (X Y Q Z R : List α) (i : Nat), X.length = Y.length → a + i = (Q.length : Nat) → b + i = ((Q.length + X.length + Z.length : Nat) : Int) → n = ((i + X.length : Nat) : Int) → 0 ≤ a → 0 ≤ b → (Q ++ X ++ Z ++ Y ++ R).length ≤ 1099511627776 →
    lp (fun s : List α × Int => rN cmp a b n s.1 s.2) (Q ++ X ++ Z ++ Y ++ R, ((i : Nat) : Int)) = some (Q ++ Y ++ Z ++ X ++ R)
  | [], Y, Q, Z, R, i, hxy, ha, hb, hn, _, _, hl => by
    have : Y = [] := List.length_eq_zero_iff.1 hxy.symm
    subst this
    refine cM ?_
    have : decide (((i : Nat) : Int) < n) = false := by subst hn; simp
    simp only [rN, this, cond_false]
  | x :: X, [], Q, Z, R, i, hxy, _, _, _, _, _, _ => by simp at hxy
  | x :: X, y :: Y, Q, Z, R, i, hxy, ha, hb, hn, ha0, hb0, hl => by
    simp only [List.length_append, List.length_cons] at hl hb hn hxy
    have hlt : decide (((i : Nat) : Int) < n) = true := by subst hn; simp; omega
    have wa : IntKind.i64.wrap (a + i) = ((Q.length : Nat) : Int) := by rw [wr (by omega) (by omega)]; exact ha
    have wb : IntKind.i64.wrap (b + i) = ((Q.length + 1 + (X ++ Z).length : Nat) : Int) := by rw [wr (by omega) (by omega), hb]; simp only [List.length_append]; congr 1; omega
    have wi : IntKind.i64.wrap (((i : Nat) : Int) + 1) = ((i + 1 : Nat) : Int) := by rw [wr (by omega) (by omega)]; omega
    have hd : Q ++ x :: X ++ Z ++ y :: Y ++ R = Q ++ x :: ((X ++ Z) ++ y :: (Y ++ R)) := by simp
    have b1 : 0 ≤ ((Q.length : Nat) : Int) ∧ ((Q.length : Nat) : Int) < ((List.length (Q ++ x :: X ++ Z ++ y :: Y ++ R) : Nat) : Int) := ⟨by omega, by simp only [List.length_append, List.length_cons]; omega⟩
    have b2 : 0 ≤ ((Q.length + 1 + (X ++ Z).length : Nat) : Int) ∧ ((Q.length + 1 + (X ++ Z).length : Nat) : Int) < ((List.length (Q ++ x :: X ++ Z ++ y :: Y ++ R) : Nat) : Int) := ⟨by omega, by simp only [List.length_append, List.length_cons]; omega⟩
    have g1 : (Q ++ x :: X ++ Z ++ y :: Y ++ R).getD Q.length default = x := sU hd rfl
    have g2 : (Q ++ x :: X ++ Z ++ y :: Y ++ R).getD (Q.length + 1 + (X ++ Z).length) default = y := sU (Q := Q ++ x :: X ++ Z) (R := Y ++ R) (by simp) (by simp; omega)
    have hbod : (fun s : List α × Int => rN cmp a b n s.1 s.2) (Q ++ x :: X ++ Z ++ y :: Y ++ R, ((i : Nat) : Int)) = some (.inl ((Q ++ [y]) ++ X ++ (Z ++ [x]) ++ Y ++ R, ((i + 1 : Nat) : Int))) := by
      show rN cmp a b n _ _ = _
      simp only [rN, hlt, cond_true, wa, wb, wi, aT b1, aT b2, Int.toNat_natCast, g1, g2]
      rw [VA hd rfl rfl]
      simp
    rw [dS hbod, JD X Y (Q ++ [y]) (Z ++ [x]) R (i + 1) (by omega) (by simp; omega) (by simp; omega) (by rw [hn]; congr 1; omega) ha0 hb0 (by simp only [List.length_append, List.length_cons, List.length_nil]; omega)]
    simp

theorem PT {cmp : α → α → Option Int} {a b n : Int} {X Y Q Z R d : List α} (hd : d = Q ++ X ++ Z ++ Y ++ R) (hxy : X.length = Y.length) (ha : a = (Q.length : Nat)) (hb : b = ((Q.length + X.length + Z.length : Nat) : Int)) (hn : n = (X.length : Nat)) (hl : d.length ≤ 1099511627776) :
    wT d a b n cmp = some (Q ++ Y ++ Z ++ X ++ R) := by
  subst hd
  unfold wT GV
  have := JD (cmp := cmp) (a := a) (b := b) (n := n) X Y Q Z R 0 hxy (by omega) (by omega) (by omega) (by omega) (by omega) hl
  simp only [Int.natCast_zero] at this
  rw [this]; rfl

theorem aA5 {cmp : α → α → Option Int} {m : Int} : ∀ (n : Nat) (X Y Q R : List α), X.length + Y.length ≤ n → X ≠ [] → Y ≠ [] → m = ((Q.length + X.length : Nat) : Int) → (Q ++ X ++ Y ++ R).length ≤ 1099511627776 →
    (lp (fun s : List α × Int × Int => oC cmp m s.1 s.2.1 s.2.2) (Q ++ X ++ Y ++ R, ((X.length : Nat) : Int), ((Y.length : Nat) : Int))).bind (fun rr => GH cmp rr.1 m rr.2) = some (Q ++ Y ++ X ++ R) := by
  intro n
  induction n with
  | zero => intro X Y Q R hn hX; exact absurd (List.length_eq_zero_iff.1 (by omega)) hX
  | succ n ih =>
    intro X Y Q R hn hX hY hm hl
    have hX' : 0 < X.length := List.length_pos_iff.2 hX
    have hY' : 0 < Y.length := List.length_pos_iff.2 hY
    simp only [List.length_append] at hl
    rcases Nat.lt_trichotomy X.length Y.length with h | h | h
    · -- the second is longer
      obtain ⟨Y1, Y2, rfl, hY2⟩ : ∃ Y1 Y2, Y = Y1 ++ Y2 ∧ Y2.length = X.length := ⟨Y.take (Y.length - X.length), Y.drop (Y.length - X.length), (List.take_append_drop _ _).symm, by rw [List.length_drop]; omega⟩
      simp only [List.length_append] at hn hl h
      have hne : decide (((X.length : Nat) : Int) = (((Y1 ++ Y2).length : Nat) : Int)) = false := by simp only [List.length_append]; simp; omega
      have hlt : decide ((((Y1 ++ Y2).length : Nat) : Int) < ((X.length : Nat) : Int)) = false := by simp only [List.length_append]; simp; omega
      have e1 : IntKind.i64.wrap (m - ((X.length : Nat) : Int)) = ((Q.length : Nat) : Int) := by rw [wr (by omega) (by omega)]; omega
      have e0 : IntKind.i64.wrap (m + (((Y1 ++ Y2).length : Nat) : Int)) = m + (((Y1 ++ Y2).length : Nat) : Int) := by simp only [List.length_append]; exact wr (by omega) (by omega)
      have e2 : IntKind.i64.wrap (m + (((Y1 ++ Y2).length : Nat) : Int) - ((X.length : Nat) : Int)) = ((Q.length + X.length + Y1.length : Nat) : Int) := by simp only [List.length_append]; rw [wr (by omega) (by omega)]; omega
      have e3 : IntKind.i64.wrap ((((Y1 ++ Y2).length : Nat) : Int) - ((X.length : Nat) : Int)) = ((Y1.length : Nat) : Int) := by simp only [List.length_append]; rw [wr (by omega) (by omega)]; omega
      have hbod : (fun s : List α × Int × Int => oC cmp m s.1 s.2.1 s.2.2) (Q ++ X ++ (Y1 ++ Y2) ++ R, ((X.length : Nat) : Int), (((Y1 ++ Y2).length : Nat) : Int)) = some (.inl (Q ++ Y2 ++ Y1 ++ (X ++ R), ((Y2.length : Nat) : Int), ((Y1.length : Nat) : Int))) := by
        show oC cmp m _ _ _ = _
        simp only [oC, hne, Bool.not_false, cond_true, hlt, cond_false, e0, e1, e2, e3]
        rw [PT (X := X) (Y := Y2) (Q := Q) (Z := Y1) (R := R) (by simp) hY2.symm rfl rfl rfl (by simp only [List.length_append]; omega)]
        simp [hY2]
      rw [dS hbod, ih Y2 Y1 Q (X ++ R) (by omega) (fun h => by rw [h] at hY2; simp at hY2; omega) (fun h' => by rw [h'] at h; simp at h; omega) (by rw [hm]; congr 1; omega) (by simp only [List.length_append]; omega)]
      simp
    · -- alike
      have hne : decide (((X.length : Nat) : Int) = ((Y.length : Nat) : Int)) = true := by simp; omega
      rw [cM (r := (Q ++ X ++ Y ++ R, ((X.length : Nat) : Int))) (by show oC cmp m _ _ _ = _; simp only [oC, hne, Bool.not_true, cond_false])]
      simp only [Option.bind_some, GH]
      have e1 : IntKind.i64.wrap (m - ((X.length : Nat) : Int)) = ((Q.length : Nat) : Int) := by rw [wr (by omega) (by omega)]; omega
      rw [e1, PT (X := X) (Y := Y) (Q := Q) (Z := []) (R := R) (by simp) h rfl (by rw [hm]; simp) rfl (by simp only [List.length_append]; omega)]
      simp
    · -- the first is longer
      obtain ⟨X1, X2, rfl, hX1⟩ : ∃ X1 X2, X = X1 ++ X2 ∧ X1.length = Y.length := ⟨X.take Y.length, X.drop Y.length, (List.take_append_drop _ _).symm, by rw [List.length_take]; omega⟩
      simp only [List.length_append] at hn hl h hm
      have hne : decide ((((X1 ++ X2).length : Nat) : Int) = ((Y.length : Nat) : Int)) = false := by simp only [List.length_append]; simp; omega
      have hlt : decide (((Y.length : Nat) : Int) < (((X1 ++ X2).length : Nat) : Int)) = true := by simp only [List.length_append]; simp; omega
      have e1 : IntKind.i64.wrap (m - (((X1 ++ X2).length : Nat) : Int)) = ((Q.length : Nat) : Int) := by simp only [List.length_append]; rw [wr (by omega) (by omega)]; omega
      have e3 : IntKind.i64.wrap ((((X1 ++ X2).length : Nat) : Int) - ((Y.length : Nat) : Int)) = ((X2.length : Nat) : Int) := by simp only [List.length_append]; rw [wr (by omega) (by omega)]; omega
      have hbod : (fun s : List α × Int × Int => oC cmp m s.1 s.2.1 s.2.2) (Q ++ (X1 ++ X2) ++ Y ++ R, (((X1 ++ X2).length : Nat) : Int), ((Y.length : Nat) : Int)) = some (.inl ((Q ++ Y) ++ X2 ++ X1 ++ R, ((X2.length : Nat) : Int), ((X1.length : Nat) : Int))) := by
        show oC cmp m _ _ _ = _
        simp only [oC, hne, Bool.not_false, cond_true, hlt, e1, e3]
        rw [PT (X := X1) (Y := Y) (Q := Q) (Z := X2) (R := R) (by simp) hX1 rfl (by rw [hm]; congr 1; omega) (by rw [hX1]) (by simp only [List.length_append]; omega)]
        simp [hX1]
      rw [dS hbod, ih X2 X1 (Q ++ Y) R (by omega) (fun h' => by rw [h'] at h; simp at h; omega) (fun h => by rw [h] at hX1; simp at hX1; omega) (by rw [hm]; simp only [List.length_append]; congr 1; omega) (by simp only [List.length_append]; omega)]
      simp

theorem aDR {cmp : α → α → Option Int} {a m b : Int} {X Y Q R d : List α} (hd : d = Q ++ X ++ Y ++ R) (hX : X ≠ []) (hY : Y ≠ []) (ha : a = (Q.length : Nat)) (hm : m = ((Q.length + X.length : Nat) : Int)) (hb : b = ((Q.length + X.length + Y.length : Nat) : Int)) (hl : d.length ≤ 1099511627776) :
    EX d a m b cmp = some (Q ++ Y ++ X ++ R) := by
  subst hd
  unfold EX MG
  have hl' := hl
  simp only [List.length_append] at hl'
  rw [show IntKind.i64.wrap (m - a) = ((X.length : Nat) : Int) by rw [wr (by omega) (by omega)]; omega, show IntKind.i64.wrap (b - m) = ((Y.length : Nat) : Int) by rw [wr (by omega) (by omega)]; omega]
  exact aA5 _ X Y Q R (Nat.le_refl _) hX hY hm hl

end Go.Abs
namespace Go.Abs
open Go
variable {α : Type} [Inhabited α]
theorem half {s : Nat} (h : s ≤ 4398046511104) : IntKind.i64.wrap (Int.fdiv (IntKind.u64.wrap (IntKind.i64.wrap (s : Int))) (2 ^ (min (Int.toNat (1 : Int)) 64))) = ((s / 2 : Nat) : Int) := by
  rw [wr (n := (s : Int)) (by omega) (by omega)]
  have hu : IntKind.u64.wrap (s : Int) = (s : Int) := by
    simp only [IntKind.wrap, IntKind.bits, IntKind.signed]
    simp
    omega
  have hp : (2 : Int) ^ (min (Int.toNat (1 : Int)) 64) = 2 := by decide
  rw [hu, hp, Int.fdiv_eq_ediv_of_nonneg _ (by omega), wr (by omega) (by omega)]
  omega

theorem HN {P B S d : List α} {n k : Nat} (hd : d = P ++ B ++ S) (hn : n = P.length + k) (hk : k < B.length) : d.getD n default = B.getD k default := by
  subst hd; subst hn
  simp only [List.getD_eq_getElem?_getD]
  rw [List.append_assoc, List.getElem?_append_right (by omega), List.getElem?_append_left (by omega)]
  congr 2; omega

theorem HY {l : List α} {t : Nat} {y : α} (h : y ∈ l.take t) : ∃ i, i < t ∧ i < l.length ∧ y = l.getD i default := by
  obtain ⟨i, hi, rfl⟩ := List.mem_iff_getElem.1 h
  rw [List.length_take] at hi
  refine ⟨i, by omega, by omega, ?_⟩
  rw [List.getElem_take, List.getD_eq_getElem?_getD, List.getElem?_eq_getElem (by omega)]; rfl

theorem wP {l : List α} {t : Nat} {y : α} (h : y ∈ l.drop t) : ∃ i, t ≤ i ∧ i < l.length ∧ y = l.getD i default := by
  obtain ⟨i, hi, rfl⟩ := List.mem_iff_getElem.1 h
  rw [List.length_drop] at hi
  refine ⟨t + i, by omega, by omega, ?_⟩
  rw [List.getElem_drop, List.getD_eq_getElem?_getD, List.getElem?_eq_getElem (by omega)]; rfl

theorem dR {l : List α} {i : Nat} (h : i < l.length) : l.getD i default ∈ l := by
  rw [List.getD_eq_getElem?_getD, List.getElem?_eq_getElem h]; exact List.getElem_mem h

section sym
variable {ok : α → Prop} {le : α → α → Prop} {cmp : α → α → Option Int}
theorem Cmp.refl {β : Type} {ok : β → Prop} {le : β → β → Prop} {cmp : β → β → Option Int} (C : Cmp ok le cmp) {x : β} (h : ok x) : le x x := by rcases C.total x x h h with h | h <;> exact h

theorem vC (C : Cmp ok le cmp) {l : List α} (ho : Oks ok l) (hs : Srt le l) {i j : Nat} (hij : i ≤ j) (hj : j < l.length) : le (l.getD i default) (l.getD j default) := by
  rcases Nat.lt_or_eq_of_le hij with h | h
  · have := List.pairwise_iff_getElem.1 hs i j (by omega) hj h
    simpa [List.getD_eq_getElem?_getD, List.getElem?_eq_getElem hj, List.getElem?_eq_getElem (show i < l.length by omega)] using this
  · subst h; exact C.refl (ho _ (dR hj))

theorem VP {β : Type} {le : β → β → Prop} {l : List β} (h : Srt le l) (t : Nat) : Srt le (l.take t) := List.Pairwise.sublist (List.take_sublist t l) h

theorem TH {β : Type} {le : β → β → Prop} {l : List β} (h : Srt le l) (t : Nat) : Srt le (l.drop t) := List.Pairwise.sublist (List.drop_sublist t l) h

theorem WH {β : Type} {body : (List β × Int × Int) → Option ((List β × Int × Int) ⊕ (List β × Int))} {d : List β} {f : Nat → Prop} {lo hi : Nat}
    (hb : ∀ i j : Nat, lo ≤ i → i < j → j ≤ hi → ∃ t : Bool, (t = true ↔ f ((i + j) / 2)) ∧ body (d, (i : Int), (j : Int)) = some (.inl (if t then (d, (((i + j) / 2 + 1 : Nat) : Int), (j : Int)) else (d, (i : Int), (((i + j) / 2 : Nat) : Int)))))
    (he : ∀ i : Nat, body (d, (i : Int), (i : Int)) = some (.inr (d, (i : Int)))) :
    ∀ (n i j : Nat), j - i ≤ n → lo ≤ i → i ≤ j → j ≤ hi → (i = lo ∨ f (i - 1)) → (j = hi ∨ ¬ f j) → ∃ s, lo ≤ s ∧ s ≤ hi ∧ (s = lo ∨ f (s - 1)) ∧ (s = hi ∨ ¬ f s) ∧ lp body (d, (i : Int), (j : Int)) = some (d, ((s : Nat) : Int)) := by
  intro n
  induction n with
  | zero =>
    intro i j hn h1 h2 h3 h4 h5
    have : i = j := by omega
    subst this
    exact ⟨i, h1, h3, h4, h5, cM (he i)⟩
  | succ n ih =>
    intro i j hn h1 h2 h3 h4 h5
    by_cases hij : i = j
    · subst hij; exact ⟨i, h1, h3, h4, h5, cM (he i)⟩
    · obtain ⟨t, ht, hbt⟩ := hb i j h1 (by omega) h3
      cases t
      · obtain ⟨s, r1, r2, r3, r4, r5⟩ := ih i ((i + j) / 2) (by omega) h1 (by omega) (by omega) h4 (Or.inr (fun h => by have := ht.2 h; cases this))
        refine ⟨s, r1, r2, r3, r4, ?_⟩
        rw [dS hbt]; exact r5
      · obtain ⟨s, r1, r2, r3, r4, r5⟩ := ih ((i + j) / 2 + 1) j (by omega) (by omega) (by omega) h3 (Or.inr (by simpa using ht.1 rfl)) h5
        refine ⟨s, r1, r2, r3, r4, ?_⟩
        rw [dS hbt]; exact r5

def OE (le : α → α → Prop) (P A B S r : List α) : Prop := ∃ D, D.Perm (A ++ B) ∧ Srt le D ∧ r = P ++ D ++ S

theorem aCB {cmp : α → α → Option Int} {rec : List α → Int → Int → Int → Option (List α)} {e : Int} {x : α} : ∀ (B Q R : List α) (k : Nat), k = Q.length → e = ((Q.length + B.length + 1 : Nat) : Int) → (Q ++ x :: B ++ R).length ≤ 1099511627776 →
    lp (fun s : List α × Int => pK cmp rec e s.1 s.2) (Q ++ x :: B ++ R, (k : Int)) = some (Q ++ B ++ x :: R)
  | [], Q, R, k, hk, he, hl => by
    simp only [List.length_append, List.length_cons, List.length_nil] at hl he
    refine cM ?_
    show pK cmp rec e _ _ = _
    have : decide ((k : Int) < IntKind.i64.wrap (e - 1)) = false := by rw [wr (by omega) (by omega)]; simp; omega
    simp only [pK, this, cond_false]
    simp
  | y :: B, Q, R, k, hk, he, hl => by
    simp only [List.length_append, List.length_cons] at hl he
    have h1 : decide ((k : Int) < IntKind.i64.wrap (e - 1)) = true := by rw [wr (by omega) (by omega)]; simp; omega
    have hw : IntKind.i64.wrap ((k : Int) + 1) = ((k + 1 : Nat) : Int) := by rw [wr (by omega) (by omega)]; omega
    have b1 : 0 ≤ (k : Int) ∧ (k : Int) < ((List.length (Q ++ x :: y :: B ++ R) : Nat) : Int) := ⟨by omega, by simp only [List.length_append, List.length_cons]; omega⟩
    have b2 : 0 ≤ ((k + 1 : Nat) : Int) ∧ ((k + 1 : Nat) : Int) < ((List.length (Q ++ x :: y :: B ++ R) : Nat) : Int) := ⟨by omega, by simp only [List.length_append, List.length_cons]; omega⟩
    have hd : Q ++ x :: y :: B ++ R = Q ++ x :: ([] ++ y :: (B ++ R)) := by simp
    have g1 : (Q ++ x :: y :: B ++ R).getD k default = x := sU hd hk
    have g2 : (Q ++ x :: y :: B ++ R).getD (k + 1) default = y := sU (Q := Q ++ [x]) (R := B ++ R) (by simp) (by simp; omega)
    have hb : (fun s : List α × Int => pK cmp rec e s.1 s.2) (Q ++ x :: y :: B ++ R, (k : Int)) = some (.inl ((Q ++ [y]) ++ x :: B ++ R, ((k + 1 : Nat) : Int))) := by
      show pK cmp rec e _ _ = _
      simp only [pK, h1, cond_true, hw, aT b1, aT b2, Int.toNat_natCast, g1, g2]
      rw [VA (M := []) hd hk (by simp; omega)]
      simp
    rw [dS hb, aCB B (Q ++ [y]) R (k + 1) (by simp; omega) (by rw [he]; simp only [List.length_append, List.length_cons, List.length_nil]; congr 1; omega) (by simp only [List.length_append, List.length_cons, List.length_nil]; omega)]
    simp

theorem aC5 {cmp : α → α → Option Int} {rec : List α → Int → Int → Int → Option (List α)} {e : Int} {x : α} {Q : List α} (he : e = (Q.length : Nat)) : ∀ (n : Nat) (A R : List α) (k : Nat), A.length = n → k = Q.length + A.length → (Q ++ A ++ x :: R).length ≤ 1099511627776 →
    lp (fun s : List α × Int => pP cmp rec e s.1 s.2) (Q ++ A ++ x :: R, (k : Int)) = some (Q ++ x :: A ++ R) := by
  intro n
  induction n with
  | zero =>
    intro A R k hn hk hl
    have hA : A = [] := List.length_eq_zero_iff.1 hn
    subst hA
    refine cM ?_
    show pP cmp rec e _ _ = _
    have : decide (e < (k : Int)) = false := by simp only [List.length_nil] at hk; simp; omega
    simp only [pP, this, cond_false]
    simp
  | succ n ih =>
    intro A R k hn hk hl
    obtain ⟨A', y, rfl⟩ : ∃ A' y, A = A' ++ [y] := by
      rcases List.eq_nil_or_concat A with h | ⟨A', y, h⟩
      · rw [h] at hn; simp at hn
      · exact ⟨A', y, by simpa using h⟩
    simp only [List.length_append, List.length_cons, List.length_nil] at hl hk hn
    have h1 : decide (e < (k : Int)) = true := by simp; omega
    have hw : IntKind.i64.wrap ((k : Int) - 1) = ((Q.length + A'.length : Nat) : Int) := by rw [wr (by omega) (by omega)]; omega
    have b1 : 0 ≤ (k : Int) ∧ (k : Int) < ((List.length (Q ++ (A' ++ [y]) ++ x :: R) : Nat) : Int) := ⟨by omega, by simp only [List.length_append, List.length_cons, List.length_nil]; omega⟩
    have b2 : 0 ≤ ((Q.length + A'.length : Nat) : Int) ∧ ((Q.length + A'.length : Nat) : Int) < ((List.length (Q ++ (A' ++ [y]) ++ x :: R) : Nat) : Int) := ⟨by omega, by simp only [List.length_append, List.length_cons, List.length_nil]; omega⟩
    have g1 : (Q ++ (A' ++ [y]) ++ x :: R).getD k default = x := sU (Q := Q ++ (A' ++ [y])) rfl (by simp; omega)
    have g2 : (Q ++ (A' ++ [y]) ++ x :: R).getD (Q.length + A'.length) default = y := sU (Q := Q ++ A') (R := x :: R) (by simp) (by simp)
    have hb : (fun s : List α × Int => pP cmp rec e s.1 s.2) (Q ++ (A' ++ [y]) ++ x :: R, (k : Int)) = some (.inl (Q ++ A' ++ x :: (y :: R), ((Q.length + A'.length : Nat) : Int))) := by
      show pP cmp rec e _ _ = _
      simp only [pP, h1, cond_true, hw, aT b1, aT b2, Int.toNat_natCast, g1, g2]
      rw [GM (Q := Q ++ (A' ++ [y])) (x := x) (R := R) rfl (by simp; omega), GM (Q := Q ++ A') (x := y) (R := y :: R) (by simp) (by simp)]
    rw [dS hb, ih A' (y :: R) (Q.length + A'.length) (by omega) rfl (by simp only [List.length_append, List.length_cons]; omega)]
    simp

def YD (cmp : α → α → Option Int) (le : α → α → Prop) (P A B S : List α) (d : List α) (a m b : Int) : Prop :=
  (∃ r, OE le P A B S r ∧ ∀ rec, eO cmp rec d a m b = some r) ∨
  (∃ A1 A2 B1 B2, A = A1 ++ A2 ∧ B = B1 ++ B2 ∧ 0 < A1.length + B1.length ∧ 0 < A2.length + B2.length ∧ (∀ x ∈ A1 ++ B1, ∀ y ∈ A2 ++ B2, le x y) ∧
    ∀ rec, eO cmp rec d a m b = (cond (decide (A1 ≠ [] ∧ B1 ≠ [])) (rec (P ++ A1 ++ B1 ++ A2 ++ B2 ++ S) a (a + (A1.length : Nat)) (a + ((A1.length + B1.length : Nat) : Int))) (some (P ++ A1 ++ B1 ++ A2 ++ B2 ++ S))).bind fun x =>
      cond (decide (A2 ≠ [] ∧ B2 ≠ [])) (rec x (a + ((A1.length + B1.length : Nat) : Int)) (a + ((A1.length + B1.length + A2.length : Nat) : Int)) b) (some x))

theorem aAS (C : Cmp ok le cmp) {P B S : List α} {x : α} {a m b : Int} (hx : ok x) (hB : Oks ok B) (hs : Srt le B) (ha : a = (P.length : Nat)) (hm : m = ((P.length + 1 : Nat) : Int)) (hb : b = ((P.length + 1 + B.length : Nat) : Int)) (hl : (P ++ x :: B ++ S).length ≤ 1099511627776) :
    ∃ r, OE le P [x] B S r ∧ ∀ rec, eO cmp rec (P ++ x :: B ++ S) a m b = some r := by
  have hl' := hl
  simp only [List.length_append, List.length_cons] at hl'
  have hgx : (P ++ x :: B ++ S).getD P.length default = x := sU (Q := P) (R := B ++ S) (by simp) rfl
  have hgb : ∀ k, k < B.length → (P ++ x :: B ++ S).getD (P.length + 1 + k) default = B.getD k default := fun k hk => HN (P := P ++ [x]) (B := B) (S := S) (by simp) (by simp) hk
  have hbin : ∀ rec, ∃ s : Nat, P.length + 1 ≤ s ∧ s ≤ P.length + 1 + B.length ∧ (s = P.length + 1 ∨ ¬ le x (B.getD (s - 1 - (P.length + 1)) default)) ∧ (s = P.length + 1 + B.length ∨ ¬ ¬ le x (B.getD (s - (P.length + 1)) default)) ∧
      lp (fun s : List α × Int × Int => pL cmp rec a s.1 s.2.1 s.2.2) (P ++ x :: B ++ S, m, b) = some (P ++ x :: B ++ S, ((s : Nat) : Int)) := by
    intro rec
    rw [hm, hb]
    refine WH (lo := P.length + 1) (hi := P.length + 1 + B.length) (f := fun k => ¬ le x (B.getD (k - (P.length + 1)) default)) ?_ ?_ _ _ _ (Nat.le_refl _) (Nat.le_refl _) (by omega) (Nat.le_refl _) (Or.inl rfl) (Or.inl rfl)
    · intro i j h1 h2 h3
      have hh : (i + j) / 2 - (P.length + 1) < B.length := by omega
      have e1 : (P ++ x :: B ++ S).getD ((i + j) / 2) default = B.getD ((i + j) / 2 - (P.length + 1)) default := by
        have := hgb ((i + j) / 2 - (P.length + 1)) hh
        rwa [show P.length + 1 + ((i + j) / 2 - (P.length + 1)) = (i + j) / 2 by omega] at this
      obtain ⟨v, hc, hv⟩ := C.ans _ x (hB _ (dR hh)) hx
      refine ⟨decide (v < 0), by simpa using hv, ?_⟩
      show pL cmp rec a _ _ _ = _
      have hlt : decide ((i : Int) < (j : Int)) = true := by simpa using h2
      have hadd : ((i : Int) + (j : Int)) = ((i + j : Nat) : Int) := by omega
      have w1 : IntKind.i64.wrap ((((i + j) / 2 : Nat) : Int) + 1) = (((i + j) / 2 + 1 : Nat) : Int) := by rw [wr (by omega) (by omega)]; omega
      simp only [pL, hlt, cond_true, hadd, half (s := i + j) (by omega), Int.toNat_natCast, ha, e1, hgx, hc, Option.bind_some, w1]
      rw [aT (by omega), aT ⟨by omega, by simp only [List.length_append, List.length_cons]; omega⟩, aT ⟨by omega, by simp only [List.length_append, List.length_cons]; omega⟩]
      by_cases hneg : v < 0 <;> simp [hneg]
    · intro i
      show pL cmp rec a _ _ _ = _
      have hlt : decide ((i : Int) < (i : Int)) = false := by simp
      simp only [pL, hlt, cond_false]
  obtain ⟨s, s1, s2, s3, s4, s5⟩ := hbin (fun _ _ _ _ => none)
  obtain ⟨t, rfl⟩ : ∃ t, s = P.length + 1 + t := ⟨s - (P.length + 1), by omega⟩
  have ht : t ≤ B.length := by omega
  have hx1 : ∀ i, i < t → le (B.getD i default) x := fun i hi => by
    have h3 : ¬ le x (B.getD (t - 1) default) := by
      rcases s3 with h | h
      · omega
      · rwa [show P.length + 1 + t - 1 - (P.length + 1) = t - 1 by omega] at h
    have h4 : le (B.getD (t - 1) default) x := by
      rcases C.total x _ hx (hB _ (dR (show t - 1 < B.length by omega))) with h | h
      · exact absurd h h3
      · exact h
    exact C.trans _ _ _ (hB _ (dR (by omega))) (hB _ (dR (by omega))) hx (vC C hB hs (show i ≤ t - 1 by omega) (by omega)) h4
  have hx2 : ∀ j, t ≤ j → j < B.length → le x (B.getD j default) := fun j hj hj' => by
    have h3 : le x (B.getD t default) := by
      rcases s4 with h | h
      · omega
      · rw [show P.length + 1 + t - (P.length + 1) = t by omega] at h
        exact Classical.not_not.1 h
    exact C.trans _ _ _ hx (hB _ (dR (by omega))) (hB _ (dR hj')) h3 (vC C hB hs hj hj')
  have hBs : B.take t ++ B.drop t = B := List.take_append_drop t B
  have hlt : (B.take t).length = t := by rw [List.length_take]; omega
  refine ⟨P ++ (B.take t ++ x :: B.drop t) ++ S, ⟨_, ?_, ?_, rfl⟩, fun rec => ?_⟩
  · have := List.perm_middle (a := x) (l₁ := B.take t) (l₂ := B.drop t)
    rw [hBs] at this; exact this
  · simp only [Srt, List.pairwise_append, List.pairwise_cons]
    refine ⟨VP hs t, ⟨fun z hz => ?_, TH hs t⟩, fun y hy z hz => ?_⟩
    · obtain ⟨j, j1, j2, rfl⟩ := wP hz
      exact hx2 j j1 j2
    · obtain ⟨i, i1, i2, rfl⟩ := HY hy
      rcases List.mem_cons.1 hz with rfl | hz
      · exact hx1 i i1
      · obtain ⟨j, j1, j2, rfl⟩ := wP hz
        exact vC C hB hs (by omega) j2
  · have h1 : decide (IntKind.i64.wrap (m - a) = 1) = true := by rw [wr (by omega) (by omega)]; simp; omega
    have s5' : lp (fun s : List α × Int × Int => pL cmp rec a s.1 s.2.1 s.2.2) (P ++ x :: B ++ S, m, b) = some (P ++ x :: B ++ S, ((P.length + 1 + t : Nat) : Int)) := s5
    simp only [eO, h1, cond_true, GJ, s5', Option.bind_some, GU, GZ]
    have hmv := aCB (cmp := cmp) (rec := rec) (e := ((P.length + 1 + t : Nat) : Int)) (x := x) (B.take t) P (B.drop t ++ S) P.length rfl (by rw [hlt]; congr 1; omega) (by simp only [List.length_append, List.length_cons, List.length_drop]; omega)
    have hd : P ++ x :: B.take t ++ (B.drop t ++ S) = P ++ x :: B ++ S := by
      have : P ++ x :: B.take t ++ (B.drop t ++ S) = P ++ x :: (B.take t ++ B.drop t) ++ S := by simp only [List.append_assoc, List.cons_append]
      rw [this, hBs]
    rw [hd] at hmv
    rw [ha, hmv]
    simp [GS]

theorem aBJ (C : Cmp ok le cmp) {P A S : List α} {x : α} {a m b : Int} (hx : ok x) (hA : Oks ok A) (hs : Srt le A) (hA1 : A.length ≠ 1) (ha : a = (P.length : Nat)) (hm : m = ((P.length + A.length : Nat) : Int)) (hb : b = ((P.length + A.length + 1 : Nat) : Int)) (hl : (P ++ A ++ x :: S).length ≤ 1099511627776) :
    ∃ r, OE le P A [x] S r ∧ ∀ rec, eO cmp rec (P ++ A ++ x :: S) a m b = some r := by
  have hl' := hl
  simp only [List.length_append, List.length_cons] at hl'
  have hgx : (P ++ A ++ x :: S).getD (P.length + A.length) default = x := sU (Q := P ++ A) (R := S) rfl (by simp)
  have hga : ∀ k, k < A.length → (P ++ A ++ x :: S).getD (P.length + k) default = A.getD k default := fun k hk => HN (P := P) (B := A) (S := x :: S) rfl rfl hk
  have hbin : ∀ rec, ∃ s : Nat, P.length ≤ s ∧ s ≤ P.length + A.length ∧ (s = P.length ∨ le (A.getD (s - 1 - P.length) default) x) ∧ (s = P.length + A.length ∨ ¬ le (A.getD (s - P.length) default) x) ∧
      lp (fun s : List α × Int × Int => pI cmp rec m s.1 s.2.1 s.2.2) (P ++ A ++ x :: S, a, m) = some (P ++ A ++ x :: S, ((s : Nat) : Int)) := by
    intro rec
    rw [ha, hm]
    refine WH (lo := P.length) (hi := P.length + A.length) (f := fun k => le (A.getD (k - P.length) default) x) ?_ ?_ _ _ _ (Nat.le_refl _) (Nat.le_refl _) (by omega) (Nat.le_refl _) (Or.inl rfl) (Or.inl rfl)
    · intro i j h1 h2 h3
      have hh : (i + j) / 2 - P.length < A.length := by omega
      have e1 : (P ++ A ++ x :: S).getD ((i + j) / 2) default = A.getD ((i + j) / 2 - P.length) default := by
        have := hga ((i + j) / 2 - P.length) hh
        rwa [show P.length + ((i + j) / 2 - P.length) = (i + j) / 2 by omega] at this
      obtain ⟨v, hc, hv⟩ := C.ans x _ hx (hA _ (dR hh))
      refine ⟨!decide (v < 0), by simp only [Bool.not_eq_true', decide_eq_false_iff_not, hv, Classical.not_not], ?_⟩
      show pI cmp rec _ _ _ _ = _
      have hlt : decide ((i : Int) < (j : Int)) = true := by simpa using h2
      have hadd : ((i : Int) + (j : Int)) = ((i + j : Nat) : Int) := by omega
      have w1 : IntKind.i64.wrap ((((i + j) / 2 : Nat) : Int) + 1) = (((i + j) / 2 + 1 : Nat) : Int) := by rw [wr (by omega) (by omega)]; omega
      simp only [pI, hlt, cond_true, hadd, half (s := i + j) (by omega), Int.toNat_natCast, e1, hgx, hc, Option.bind_some, w1]
      rw [aT (by omega), aT ⟨by omega, by simp only [List.length_append, List.length_cons]; omega⟩, aT ⟨by omega, by simp only [List.length_append, List.length_cons]; omega⟩]
      by_cases hneg : v < 0 <;> simp [hneg]
    · intro i
      show pI cmp rec _ _ _ _ = _
      have hlt : decide ((i : Int) < (i : Int)) = false := by simp
      simp only [pI, hlt, cond_false]
  obtain ⟨s, s1, s2, s3, s4, s5⟩ := hbin (fun _ _ _ _ => none)
  obtain ⟨t, rfl⟩ : ∃ t, s = P.length + t := ⟨s - P.length, by omega⟩
  have ht : t ≤ A.length := by omega
  have hx1 : ∀ i, i < t → le (A.getD i default) x := fun i hi => by
    have h4 : le (A.getD (t - 1) default) x := by
      rcases s3 with h | h
      · omega
      · rwa [show P.length + t - 1 - P.length = t - 1 by omega] at h
    exact C.trans _ _ _ (hA _ (dR (by omega))) (hA _ (dR (by omega))) hx (vC C hA hs (show i ≤ t - 1 by omega) (by omega)) h4
  have hx2 : ∀ j, t ≤ j → j < A.length → le x (A.getD j default) := fun j hj hj' => by
    have h3 : le x (A.getD t default) := by
      rcases s4 with h | h
      · omega
      · rw [show P.length + t - P.length = t by omega] at h
        rcases C.total x _ hx (hA _ (dR (show t < A.length by omega))) with h' | h'
        · exact h'
        · exact absurd h' h
    exact C.trans _ _ _ hx (hA _ (dR (by omega))) (hA _ (dR hj')) h3 (vC C hA hs hj hj')
  have hAs : A.take t ++ A.drop t = A := List.take_append_drop t A
  have hlt : (A.take t).length = t := by rw [List.length_take]; omega
  refine ⟨P ++ (A.take t ++ x :: A.drop t) ++ S, ⟨_, ?_, ?_, rfl⟩, fun rec => ?_⟩
  · have := List.perm_middle (a := x) (l₁ := A.take t) (l₂ := A.drop t)
    rw [hAs] at this
    exact this.trans (by simpa using (List.perm_append_comm (l₁ := [x]) (l₂ := A)))
  · simp only [Srt, List.pairwise_append, List.pairwise_cons]
    refine ⟨VP hs t, ⟨fun z hz => ?_, TH hs t⟩, fun y hy z hz => ?_⟩
    · obtain ⟨j, j1, j2, rfl⟩ := wP hz
      exact hx2 j j1 j2
    · obtain ⟨i, i1, i2, rfl⟩ := HY hy
      rcases List.mem_cons.1 hz with rfl | hz
      · exact hx1 i i1
      · obtain ⟨j, j1, j2, rfl⟩ := wP hz
        exact vC C hA hs (by omega) j2
  · have h1 : decide (IntKind.i64.wrap (m - a) = 1) = false := by rw [wr (by omega) (by omega)]; simp; omega
    have h2 : decide (IntKind.i64.wrap (b - m) = 1) = true := by rw [wr (by omega) (by omega)]; simp; omega
    have s5' : lp (fun s : List α × Int × Int => pI cmp rec m s.1 s.2.1 s.2.2) (P ++ A ++ x :: S, a, m) = some (P ++ A ++ x :: S, ((P.length + t : Nat) : Int)) := s5
    simp only [eO, h1, cond_false, DH, h2, cond_true, GX, s5', Option.bind_some, IT, HB]
    have hmv := aC5 (cmp := cmp) (rec := rec) (e := ((P.length + t : Nat) : Int)) (x := x) (Q := P ++ A.take t) (by simp [hlt]) (A.drop t).length (A.drop t) S (P.length + A.length) rfl (by simp only [List.length_append, List.length_drop, hlt]; omega) (by simp only [List.length_append, List.length_cons, List.length_drop, hlt]; omega)
    have hd : P ++ A.take t ++ A.drop t ++ x :: S = P ++ A ++ x :: S := by
      have : P ++ A.take t ++ A.drop t ++ x :: S = P ++ (A.take t ++ A.drop t) ++ x :: S := by simp only [List.append_assoc]
      rw [this, hAs]
    rw [hd] at hmv
    rw [hm, hmv]
    simp [IU]

theorem aCN (C : Cmp ok le cmp) {P A B S : List α} {a m b : Int} (hA : Oks ok A) (hB : Oks ok B) (hsA : Srt le A) (hsB : Srt le B) (hA2 : 2 ≤ A.length) (hB2 : 2 ≤ B.length)
    (ha : a = (P.length : Nat)) (hm : m = ((P.length + A.length : Nat) : Int)) (hb : b = ((P.length + A.length + B.length : Nat) : Int)) (hl : (P ++ A ++ B ++ S).length ≤ 1099511627776) :
    YD cmp le P A B S (P ++ A ++ B ++ S) a m b := by
  right
  have hl' := hl
  simp only [List.length_append] at hl'
  -- the middle
  obtain ⟨mid, hmid⟩ : ∃ mid : Nat, mid = (P.length + (P.length + A.length + B.length)) / 2 := ⟨_, rfl⟩
  have hga : ∀ k, P.length ≤ k → k < P.length + A.length → (P ++ A ++ B ++ S).getD k default = A.getD (k - P.length) default := fun k h1 h2 => HN (P := P) (B := A) (S := B ++ S) (by simp) (by omega) (by omega)
  have hgb : ∀ k, P.length + A.length ≤ k → k < P.length + A.length + B.length → (P ++ A ++ B ++ S).getD k default = B.getD (k - (P.length + A.length)) default := fun k h1 h2 => HN (P := P ++ A) (B := B) (S := S) (by simp) (by simp; omega) (by omega)
  -- the search
  obtain ⟨lo, hi, hlo, hhi, hbnd, hlohi, hrange, hinit⟩ : ∃ lo hi : Nat, (lo = P.length ∨ lo + (P.length + A.length + B.length) = mid + (P.length + A.length)) ∧ (hi = P.length + A.length ∨ hi = mid) ∧ (P.length ≤ lo ∧ mid + (P.length + A.length) ≤ lo + (P.length + A.length + B.length) ∧ hi ≤ P.length + A.length ∧ hi ≤ mid) ∧ lo ≤ hi ∧
      (∀ c, lo ≤ c → c < hi → P.length ≤ c ∧ c < P.length + A.length ∧ P.length + A.length ≤ mid + (P.length + A.length) - 1 - c ∧ mid + (P.length + A.length) - 1 - c < P.length + A.length + B.length) ∧
      (∀ rec, zC cmp rec (P ++ A ++ B ++ S) a m b = zA cmp rec (P ++ A ++ B ++ S) a m b (mid : Int) ((mid + (P.length + A.length) : Nat) : Int) (lo : Int) (hi : Int)) := by
    have hw0 : IntKind.i64.wrap (Int.fdiv (IntKind.u64.wrap (IntKind.i64.wrap (a + b))) (2 ^ (min (Int.toNat (1 : Int)) 64))) = ((mid : Nat) : Int) := by
      rw [show a + b = ((P.length + (P.length + A.length + B.length) : Nat) : Int) by omega, half (by omega), hmid]
    have hw1 : IntKind.i64.wrap ((mid : Int) + m) = ((mid + (P.length + A.length) : Nat) : Int) := by rw [wr (by omega) (by omega)]; omega
    by_cases hc : mid < P.length + A.length
    · refine ⟨mid + (P.length + A.length) - (P.length + A.length + B.length), mid, Or.inr (by omega), Or.inr (by omega), by omega, by omega, fun c h1 h2 => ⟨by omega, by omega, by omega, by omega⟩, fun rec => ?_⟩
      have hlt : decide ((mid : Int) < m) = true := by simp; omega
      simp only [zC, hw0, hlt, cond_true, hw1]
      rw [aT (by omega), show IntKind.i64.wrap (((mid + (P.length + A.length) : Nat) : Int) - b) = ((mid + (P.length + A.length) - (P.length + A.length + B.length) : Nat) : Int) by rw [wr (by omega) (by omega)]; omega]
    · refine ⟨P.length, P.length + A.length, Or.inl rfl, Or.inl rfl, by omega, by omega, fun c h1 h2 => ⟨by omega, by omega, by omega, by omega⟩, fun rec => ?_⟩
      have hlt : decide ((mid : Int) < m) = false := by simp; omega
      simp only [zC, hw0, hlt, cond_false, hw1]
      rw [aT (by omega)]
      rw [ha, hm]
  have hbin : ∀ rec, ∃ s : Nat, lo ≤ s ∧ s ≤ hi ∧ (s = lo ∨ le (A.getD (s - 1 - P.length) default) (B.getD (mid + (P.length + A.length) - 1 - (s - 1) - (P.length + A.length)) default)) ∧ (s = hi ∨ ¬ le (A.getD (s - P.length) default) (B.getD (mid + (P.length + A.length) - 1 - s - (P.length + A.length)) default)) ∧
      lp (fun s : List α × Int × Int => qR cmp rec a m b (mid : Int) ((mid + (P.length + A.length) : Nat) : Int) ((mid + (P.length + A.length) - 1 : Nat) : Int) s.1 s.2.1 s.2.2) (P ++ A ++ B ++ S, (lo : Int), (hi : Int)) = some (P ++ A ++ B ++ S, ((s : Nat) : Int)) := by
    intro rec
    refine WH (lo := lo) (hi := hi) (f := fun k => le (A.getD (k - P.length) default) (B.getD (mid + (P.length + A.length) - 1 - k - (P.length + A.length)) default)) ?_ ?_ _ _ _ (Nat.le_refl _) (Nat.le_refl _) hlohi (Nat.le_refl _) (Or.inl rfl) (Or.inl rfl)
    · intro i j h1 h2 h3
      obtain ⟨r1, r2, r3, r4⟩ := hrange ((i + j) / 2) (by omega) (by omega)
      have e1 := hga ((i + j) / 2) r1 r2
      have e2 := hgb (mid + (P.length + A.length) - 1 - (i + j) / 2) r3 r4
      obtain ⟨v, hc, hv⟩ := C.ans (B.getD (mid + (P.length + A.length) - 1 - (i + j) / 2 - (P.length + A.length)) default) (A.getD ((i + j) / 2 - P.length) default) (hB _ (dR (by omega))) (hA _ (dR (by omega)))
      refine ⟨!decide (v < 0), by simp only [Bool.not_eq_true', decide_eq_false_iff_not, hv, Classical.not_not], ?_⟩
      show qR cmp rec _ _ _ _ _ _ _ _ _ = _
      have hlt : decide ((i : Int) < (j : Int)) = true := by simpa using h2
      have hadd : ((i : Int) + (j : Int)) = ((i + j : Nat) : Int) := by omega
      have w1 : IntKind.i64.wrap ((((i + j) / 2 : Nat) : Int) + 1) = (((i + j) / 2 + 1 : Nat) : Int) := by rw [wr (by omega) (by omega)]; omega
      have w2 : IntKind.i64.wrap (((mid + (P.length + A.length) - 1 : Nat) : Int) - (((i + j) / 2 : Nat) : Int)) = ((mid + (P.length + A.length) - 1 - (i + j) / 2 : Nat) : Int) := by rw [wr (by omega) (by omega)]; omega
      simp only [qR, hlt, cond_true, hadd, half (s := i + j) (by omega), w1, w2, Int.toNat_natCast, e1, e2, hc, Option.bind_some]
      rw [aT (by omega), aT ⟨by omega, by simp only [List.length_append]; omega⟩, aT ⟨by omega, by simp only [List.length_append]; omega⟩]
      by_cases hneg : v < 0 <;> simp [hneg]
    · intro i
      show qR cmp rec _ _ _ _ _ _ _ _ _ = _
      have hlt : decide ((i : Int) < (i : Int)) = false := by simp
      simp only [qR, hlt, cond_false]
  obtain ⟨s, s1, s2, s3, s4, s5⟩ := hbin (fun _ _ _ _ => none)
  have hsA0 : P.length ≤ s ∧ s ≤ P.length + A.length := by
    omega
  have hsB0 : P.length + A.length ≤ mid + (P.length + A.length) - s ∧ mid + (P.length + A.length) - s ≤ P.length + A.length + B.length := by
    omega
  obtain ⟨t, rfl⟩ : ∃ t, s = P.length + t := ⟨s - P.length, by omega⟩
  obtain ⟨u, hu⟩ : ∃ u, mid + (P.length + A.length) - (P.length + t) = P.length + A.length + u := ⟨mid + (P.length + A.length) - (P.length + t) - (P.length + A.length), by omega⟩
  have htA : t ≤ A.length := by omega
  have huB : u ≤ B.length := by omega
  have hmtu : mid = P.length + t + u := by omega
  have hAs : A.take t ++ A.drop t = A := List.take_append_drop t A
  have hBs : B.take u ++ B.drop u = B := List.take_append_drop u B
  have hlA1 : (A.take t).length = t := by rw [List.length_take]; omega
  have hlA2 : (A.drop t).length = A.length - t := by rw [List.length_drop]
  have hlB1 : (B.take u).length = u := by rw [List.length_take]; omega
  have hlB2 : (B.drop u).length = B.length - u := by rw [List.length_drop]
  refine ⟨A.take t, A.drop t, B.take u, B.drop u, hAs.symm, hBs.symm, by rw [hlA1, hlB1]; omega, by rw [hlA2, hlB2]; omega, ?_, fun rec => ?_⟩
  · -- who stands ahead of whom
    intro x hx y hy
    rcases List.mem_append.1 hx with hx | hx
    · obtain ⟨i, i1, i2, rfl⟩ := HY hx
      rcases List.mem_append.1 hy with hy | hy
      · obtain ⟨j, j1, j2, rfl⟩ := wP hy
        exact vC C hA hsA (by omega) j2
      · obtain ⟨j, j1, j2, rfl⟩ := wP hy
        have h3 : le (A.getD (t - 1) default) (B.getD u default) := by
          rcases s3 with h | h
          · rcases hlo with h' | h' <;> omega
          · rwa [show P.length + t - 1 - P.length = t - 1 by omega, show mid + (P.length + A.length) - 1 - (P.length + t - 1) - (P.length + A.length) = u by omega] at h
        exact C.trans _ _ _ (hA _ (dR i2)) (hA _ (dR (by omega))) (hB _ (dR j2)) (vC C hA hsA (show i ≤ t - 1 by omega) (by omega))
          (C.trans _ _ _ (hA _ (dR (by omega))) (hB _ (dR (by omega))) (hB _ (dR j2)) h3 (vC C hB hsB j1 j2))
    · obtain ⟨i, i1, i2, rfl⟩ := HY hx
      rcases List.mem_append.1 hy with hy | hy
      · obtain ⟨j, j1, j2, rfl⟩ := wP hy
        have h3 : le (B.getD (u - 1) default) (A.getD t default) := by
          have h0 : ¬ le (A.getD t default) (B.getD (u - 1) default) := by
            rcases s4 with h | h
            · rcases hhi with h' | h' <;> omega
            · rwa [show P.length + t - P.length = t by omega, show mid + (P.length + A.length) - 1 - (P.length + t) - (P.length + A.length) = u - 1 by omega] at h
          rcases C.total _ _ (hA _ (dR (show t < A.length by omega))) (hB _ (dR (show u - 1 < B.length by omega))) with h | h
          · exact absurd h h0
          · exact h
        exact C.trans _ _ _ (hB _ (dR i2)) (hB _ (dR (by omega))) (hA _ (dR j2)) (vC C hB hsB (show i ≤ u - 1 by omega) (by omega))
          (C.trans _ _ _ (hB _ (dR (by omega))) (hA _ (dR (by omega))) (hA _ (dR j2)) h3 (vC C hA hsA j1 j2))
      · obtain ⟨j, j1, j2, rfl⟩ := wP hy
        exact vC C hB hsB (by omega) j2
  · have h1 : decide (IntKind.i64.wrap (m - a) = 1) = false := by rw [wr (by omega) (by omega)]; simp; omega
    have h2 : decide (IntKind.i64.wrap (b - m) = 1) = false := by rw [wr (by omega) (by omega)]; simp; omega
    have s5' : lp (fun s : List α × Int × Int => qR cmp rec a m b (mid : Int) ((mid + (P.length + A.length) : Nat) : Int) ((mid + (P.length + A.length) - 1 : Nat) : Int) s.1 s.2.1 s.2.2) (P ++ A ++ B ++ S, (lo : Int), (hi : Int)) = some (P ++ A ++ B ++ S, ((P.length + t : Nat) : Int)) := s5
    have hp : IntKind.i64.wrap (((mid + (P.length + A.length) : Nat) : Int) - 1) = ((mid + (P.length + A.length) - 1 : Nat) : Int) := by rw [wr (by omega) (by omega)]; omega
    have he : IntKind.i64.wrap (((mid + (P.length + A.length) : Nat) : Int) - ((P.length + t : Nat) : Int)) = ((P.length + A.length + u : Nat) : Int) := by rw [wr (by omega) (by omega)]; omega
    simp only [eO, h1, cond_false, DH, h2, hinit rec, zA, IL, hp, s5', Option.bind_some, IY, he]
    -- the turn
    have hd : P ++ A ++ B ++ S = (P ++ A.take t) ++ A.drop t ++ B.take u ++ (B.drop u ++ S) := by
      have : (P ++ A.take t) ++ A.drop t ++ B.take u ++ (B.drop u ++ S) = P ++ (A.take t ++ A.drop t) ++ (B.take u ++ B.drop u) ++ S := by simp only [List.append_assoc]
      rw [this, hAs, hBs]
    have hrot : cond (decide (((P.length + t : Nat) : Int) < m) && decide (m < ((P.length + A.length + u : Nat) : Int)))
        ((EX (P ++ A ++ B ++ S) ((P.length + t : Nat) : Int) m ((P.length + A.length + u : Nat) : Int) cmp).bind fun x10 => sX cmp rec x10 a b (mid : Int) ((P.length + t : Nat) : Int) ((P.length + A.length + u : Nat) : Int))
        (sX cmp rec (P ++ A ++ B ++ S) a b (mid : Int) ((P.length + t : Nat) : Int) ((P.length + A.length + u : Nat) : Int))
        = sX cmp rec (P ++ A.take t ++ B.take u ++ A.drop t ++ B.drop u ++ S) a b (mid : Int) ((P.length + t : Nat) : Int) ((P.length + A.length + u : Nat) : Int) := by
      by_cases hc : t < A.length ∧ 0 < u
      · have : (decide (((P.length + t : Nat) : Int) < m) && decide (m < ((P.length + A.length + u : Nat) : Int))) = true := by simp; omega
        rw [this, cond_true, aDR (Q := P ++ A.take t) (X := A.drop t) (Y := B.take u) (R := B.drop u ++ S) hd (fun h => by rw [h] at hlA2; simp at hlA2; omega) (fun h => by rw [h] at hlB1; simp at hlB1; omega)
          (by simp only [List.length_append, hlA1]) (by simp only [List.length_append, hlA1, hlA2]; rw [hm]; congr 1; omega) (by simp only [List.length_append, hlA1, hlA2, hlB1]; congr 1; omega) hl]
        simp
      · have : (decide (((P.length + t : Nat) : Int) < m) && decide (m < ((P.length + A.length + u : Nat) : Int))) = false := by
          rw [Bool.eq_false_iff]; intro h; simp at h; apply hc; omega
        rw [this, cond_false, hd]
        congr 1
        by_cases h0 : t < A.length
        · have : u = 0 := by omega
          subst this; simp
        · have hz : A.drop t = [] := List.drop_eq_nil_of_le (by omega)
          simp only [hz, List.append_nil, List.append_assoc, List.nil_append]
    rw [hrot]
    have hne1 : decide (A.take t ≠ [] ∧ B.take u ≠ []) = (decide (a < ((P.length + t : Nat) : Int)) && decide (((P.length + t : Nat) : Int) < (mid : Int))) := by
      have q1 : A.take t ≠ [] ↔ 0 < t := by rw [← List.length_pos_iff, hlA1]
      have q2 : B.take u ≠ [] ↔ 0 < u := by rw [← List.length_pos_iff, hlB1]
      rw [Bool.eq_iff_iff]; simp [q1, q2]; omega
    have hne2 : decide (A.drop t ≠ [] ∧ B.drop u ≠ []) = (decide ((mid : Int) < ((P.length + A.length + u : Nat) : Int)) && decide (((P.length + A.length + u : Nat) : Int) < b)) := by
      have q1 : A.drop t ≠ [] ↔ t < A.length := by rw [← List.length_pos_iff, hlA2]; omega
      have q2 : B.drop u ≠ [] ↔ u < B.length := by rw [← List.length_pos_iff, hlB2]; omega
      rw [Bool.eq_iff_iff]; simp [q1, q2]; omega
    rw [hne1, hne2, hlA1, hlB1, hlA2]
    have f1 : a + ((t : Nat) : Int) = ((P.length + t : Nat) : Int) := by omega
    have f2 : a + ((t + u : Nat) : Int) = (mid : Int) := by omega
    have f3 : a + ((t + u + (A.length - t) : Nat) : Int) = ((P.length + A.length + u : Nat) : Int) := by omega
    rw [f1, f2, f3]
    simp only [sX, DE]
    cases (decide (a < ((P.length + t : Nat) : Int)) && decide (((P.length + t : Nat) : Int) < (mid : Int))) <;> simp only [cond_true, cond_false, Option.bind_some, Option.bind_fun_some]

end sym
end Go.Abs
namespace Go.Abs
open Go
variable {α : Type} [Inhabited α] {ok : α → Prop} {le : α → α → Prop} {cmp : α → α → Option Int}
theorem aCR (C : Cmp ok le cmp) {P A B S : List α} {a m b : Int} (hA : A ≠ []) (hB : B ≠ []) (oA : Oks ok A) (oB : Oks ok B) (sA : Srt le A) (sB : Srt le B)
    (ha : a = (P.length : Nat)) (hm : m = ((P.length + A.length : Nat) : Int)) (hb : b = ((P.length + A.length + B.length : Nat) : Int)) (hl : (P ++ A ++ B ++ S).length ≤ 1099511627776) : YD cmp le P A B S (P ++ A ++ B ++ S) a m b := by
  by_cases h1 : A.length = 1
  · obtain ⟨x, rfl⟩ := List.length_eq_one_iff.1 h1
    left
    obtain ⟨r, h, h'⟩ := aAS C (P := P) (S := S) (x := x) (oA x (by simp)) oB sB ha (by simpa using hm) (by simpa using hb) (by simpa using hl)
    exact ⟨r, h, fun rec => by have := h' rec; simpa using this⟩
  · by_cases h2 : B.length = 1
    · obtain ⟨x, rfl⟩ := List.length_eq_one_iff.1 h2
      left
      obtain ⟨r, h, h'⟩ := aBJ C (P := P) (S := S) (x := x) (oB x (by simp)) oA sA h1 ha hm (by simpa using hb) (by simpa using hl)
      exact ⟨r, h, fun rec => by have := h' rec; simpa using this⟩
    · have p1 := List.length_pos_iff.2 hA
      have p2 := List.length_pos_iff.2 hB
      exact aCN C oA oB sA sB (by omega) (by omega) ha hm hb hl

theorem MK (C : Cmp ok le cmp) : ∀ (k : Nat) (P A B S : List α) (a m b : Int), A ≠ [] → B ≠ [] → Oks ok A → Oks ok B → Srt le A → Srt le B →
    a = (P.length : Nat) → m = ((P.length + A.length : Nat) : Int) → b = ((P.length + A.length + B.length : Nat) : Int) → (P ++ A ++ B ++ S).length ≤ 1099511627776 →
    (∀ r, eR cmp k (P ++ A ++ B ++ S) a m b = some r → OE le P A B S r) ∧ (A.length + B.length ≤ k → ∃ r, eR cmp k (P ++ A ++ B ++ S) a m b = some r)
  | 0, P, A, B, S, a, m, b, hA, hB, oA, oB, sA, sB, ha, hm, hb, hl => by
    refine ⟨fun r h => by simp [eR] at h, fun h => ?_⟩
    exact absurd (List.length_eq_zero_iff.1 (by omega)) hA
  | k + 1, P, A, B, S, a, m, b, hA, hB, oA, oB, sA, sB, ha, hm, hb, hl => by
    have part : ∀ (P' A' B' S' : List α) (a' m' b' : Int), Oks ok A' → Oks ok B' → Srt le A' → Srt le B' → a' = (P'.length : Nat) → m' = ((P'.length + A'.length : Nat) : Int) → b' = ((P'.length + A'.length + B'.length : Nat) : Int) → (P' ++ A' ++ B' ++ S').length ≤ 1099511627776 →
        (∀ r, cond (decide (A' ≠ [] ∧ B' ≠ [])) (eR cmp k (P' ++ A' ++ B' ++ S') a' m' b') (some (P' ++ A' ++ B' ++ S')) = some r → OE le P' A' B' S' r) ∧
        (A'.length + B'.length ≤ k → ∃ r, cond (decide (A' ≠ [] ∧ B' ≠ [])) (eR cmp k (P' ++ A' ++ B' ++ S') a' m' b') (some (P' ++ A' ++ B' ++ S')) = some r) := by
      intro P' A' B' S' a' m' b' oA' oB' sA' sB' ha' hm' hb' hl'
      by_cases h : A' ≠ [] ∧ B' ≠ []
      · rw [decide_eq_true h, cond_true]
        exact MK C k P' A' B' S' a' m' b' h.1 h.2 oA' oB' sA' sB' ha' hm' hb' hl'
      · rw [decide_eq_false h, cond_false]
        refine ⟨fun r hr => ?_, fun _ => ⟨_, rfl⟩⟩
        cases hr
        refine ⟨A' ++ B', List.Perm.refl _, ?_, by simp⟩
        by_cases h1 : A' = []
        · subst h1; simpa using sB'
        · have h2 : B' = [] := Classical.byContradiction fun h2 => h ⟨h1, h2⟩
          subst h2; simpa using sA'
    rcases aCR C hA hB oA oB sA sB ha hm hb hl with ⟨r, hr, hs⟩ | ⟨A1, A2, B1, B2, rfl, rfl, p1, p2, hcross, hs⟩
    · have e : eR cmp (k + 1) (P ++ A ++ B ++ S) a m b = some r := hs _
      exact ⟨fun r' h => by rw [e] at h; cases h; exact hr, fun _ => ⟨r, e⟩⟩
    · have e := hs (eR cmp k)
      rw [show eO cmp (eR cmp k) = eR cmp (k + 1) from rfl] at e
      have q1 := part P A1 B1 (A2 ++ B2 ++ S) a (a + (A1.length : Nat)) (a + ((A1.length + B1.length : Nat) : Int)) (fun x hx => oA x (by simp [hx])) (fun x hx => oB x (by simp [hx]))
        (List.pairwise_append.1 sA).1 (List.pairwise_append.1 sB).1 ha (by omega) (by omega) (by simp only [List.length_append] at hl ⊢; omega)
      have hd1 : P ++ A1 ++ B1 ++ A2 ++ B2 ++ S = P ++ A1 ++ B1 ++ (A2 ++ B2 ++ S) := by simp
      rw [hd1] at e
      have q2 : ∀ D1 : List α, D1.Perm (A1 ++ B1) → _ := fun D1 hD1 => part (P ++ D1) A2 B2 S (a + ((A1.length + B1.length : Nat) : Int)) (a + ((A1.length + B1.length + A2.length : Nat) : Int)) b (fun x hx => oA x (by simp [hx])) (fun x hx => oB x (by simp [hx]))
        (List.pairwise_append.1 sA).2.1 (List.pairwise_append.1 sB).2.1 (by have := hD1.length_eq; simp only [List.length_append] at this ⊢; omega) (by have := hD1.length_eq; simp only [List.length_append] at this ⊢; omega)
        (by have := hD1.length_eq; rw [hb]; simp only [List.length_append] at this ⊢; congr 1; omega) (by have := hD1.length_eq; simp only [List.length_append] at hl this ⊢; omega)
      refine ⟨fun r h => ?_, fun hk => ?_⟩
      · rw [e] at h
        obtain ⟨x, h1, h2⟩ := Option.bind_eq_some_iff.1 h
        obtain ⟨D1, d1, d2, rfl⟩ := q1.1 x h1
        have h2' : cond (decide (A2 ≠ [] ∧ B2 ≠ [])) (eR cmp k (P ++ D1 ++ A2 ++ B2 ++ S) (a + ((A1.length + B1.length : Nat) : Int)) (a + ((A1.length + B1.length + A2.length : Nat) : Int)) b) (some (P ++ D1 ++ A2 ++ B2 ++ S)) = some r := by
          have : P ++ D1 ++ (A2 ++ B2 ++ S) = P ++ D1 ++ A2 ++ B2 ++ S := by simp
          rw [this] at h2; exact h2
        obtain ⟨D2, f1, f2, rfl⟩ := (q2 D1 d1).1 r h2'
        refine ⟨D1 ++ D2, ?_, ?_, by simp⟩
        · refine (d1.append f1).trans ?_
          have : (B1 ++ (A2 ++ B2)).Perm (A2 ++ (B1 ++ B2)) := by
            have := (List.perm_append_comm (l₁ := B1) (l₂ := A2)).append_right B2
            simpa using this
          have := this.append_left A1
          simpa using this
        · rw [Srt, List.pairwise_append]
          exact ⟨d2, f2, fun x hx y hy => hcross x (d1.mem_iff.1 hx) y (f1.mem_iff.1 hy)⟩
      · simp only [List.length_append] at hk
        obtain ⟨x, hx⟩ := q1.2 (by omega)
        obtain ⟨D1, d1, d2, rfl⟩ := q1.1 x hx
        obtain ⟨r, hr⟩ := (q2 D1 d1).2 (by omega)
        refine ⟨r, ?_⟩
        rw [e, hx]
        have : P ++ D1 ++ (A2 ++ B2 ++ S) = P ++ D1 ++ A2 ++ B2 ++ S := by simp
        rw [this]; exact hr

theorem ZM {β : Type} {g : Nat → Option β} (h : ∃ k r, g k = some r) : ∃ r, MP g = some r := by
  unfold MP
  rw [dif_pos h]
  exact Classical.choose_spec h

theorem aAG (C : Cmp ok le cmp) {P A B S d : List α} {a m b : Int} (hd : d = P ++ A ++ B ++ S) (hA : A ≠ []) (hB : B ≠ []) (oA : Oks ok A) (oB : Oks ok B) (sA : Srt le A) (sB : Srt le B)
    (ha : a = (P.length : Nat)) (hm : m = ((P.length + A.length : Nat) : Int)) (hb : b = ((P.length + A.length + B.length : Nat) : Int)) (hl : d.length ≤ 1099511627776) :
    ∃ D, D.Perm (A ++ B) ∧ Srt le D ∧ rF d a m b cmp = some (P ++ D ++ S) := by
  subst hd
  unfold rF
  obtain ⟨r, hr⟩ := (MK C (A.length + B.length) P A B S a m b hA hB oA oB sA sB ha hm hb hl).2 (Nat.le_refl _)
  obtain ⟨r', hr'⟩ := ZM (g := fun k => eR cmp k (P ++ A ++ B ++ S) a m b) ⟨_, r, hr⟩
  obtain ⟨k, hk⟩ := JG hr'
  obtain ⟨D, d1, d2, rfl⟩ := (MK C k P A B S a m b hA hB oA oB sA sB ha hm hb hl).1 r' hk
  exact ⟨D, d1, d2, hr'⟩

inductive oV {β : Type} (le : β → β → Prop) (n : Nat) : List β → Prop
  | last {l : List β} : l.length ≤ n → Srt le l → oV le n l
  | cons {x l : List β} : x.length = n → Srt le x → oV le n l → oV le n (x ++ l)

theorem oV.srt {β : Type} {le : β → β → Prop} {n : Nat} {l : List β} (h : oV le n l) (hl : l.length ≤ n) : Srt le l := by
  cases h with
  | last _ h => exact h
  | cons hx hs hr =>
    rename_i x r
    have : r = [] := List.length_eq_zero_iff.1 (by simp only [List.length_append] at hl; omega)
    subst this; simpa using hs

theorem oV.split {β : Type} {le : β → β → Prop} {n : Nat} {l : List β} (h : oV le n l) (hl : n < l.length) : ∃ x r, l = x ++ r ∧ x.length = n ∧ Srt le x ∧ oV le n r := by
  cases h with
  | last h' _ => omega
  | cons hx hs hr => exact ⟨_, _, rfl, hx, hs, hr⟩

theorem oV.aDs {β : Type} {le : β → β → Prop} {n : Nat} {l : List β} (hn : 0 < n) (h : oV le n l) (hl : 2 * n ≤ l.length) : ∃ x y r, l = x ++ y ++ r ∧ x.length = n ∧ y.length = n ∧ Srt le x ∧ Srt le y ∧ oV le n r := by
  obtain ⟨x, r, rfl, h1, h2, h3⟩ := h.split (by omega)
  simp only [List.length_append] at hl
  by_cases he : r.length = n
  · exact ⟨x, r, [], by simp, h1, he, h2, h3.srt (by omega), oV.last (by simp) List.Pairwise.nil⟩
  · obtain ⟨y, r', rfl, e1, e2, e3⟩ := h3.split (by omega)
    exact ⟨x, y, r', by simp, h1, e1, h2, e2, e3⟩

theorem Oks.perm {β : Type} {ok : β → Prop} {l l' : List β} (h : Oks ok l) (hp : l'.Perm l) : Oks ok l' := fun x hx => h x (hp.mem_iff.1 hx)

theorem aDI (C : Cmp ok le cmp) {n1 : Int} : ∀ (n : Nat) (F G : List α), G.length ≤ n → Oks ok G → n1 = ((F.length + G.length : Nat) : Int) → (F ++ G).length ≤ 1099511627776 →
    ∃ G1 G2, (G1 ++ G2).Perm G ∧ G2.length < 20 ∧ (∀ H, H.length ≤ 20 → Srt le H → oV le 20 (G1 ++ H)) ∧
      lp (fun s : List α × Int × Int => nZ cmp n1 20 s.1 s.2.1 s.2.2) (F ++ G, ((F.length : Nat) : Int), ((F.length + 20 : Nat) : Int)) = some (F ++ G1 ++ G2, ((F.length + G1.length : Nat) : Int)) := by
  intro n
  induction n with
  | zero =>
    intro F G hn hG h1 hl
    refine ⟨[], G, by simp, by omega, fun H h2 h3 => oV.last (by simpa using h2) (by simpa using h3), ?_⟩
    rw [cM (r := (F ++ G, ((F.length : Nat) : Int)))]
    · simp
    · have : decide (((F.length + 20 : Nat) : Int) ≤ n1) = false := by subst h1; simp; omega
      simp only [nZ, this, cond_false]
  | succ n ih =>
    intro F G hn hG h1 hl
    by_cases hg : G.length < 20
    · refine ⟨[], G, by simp, by omega, fun H h2 h3 => oV.last (by simpa using h2) (by simpa using h3), ?_⟩
      rw [cM (r := (F ++ G, ((F.length : Nat) : Int)))]
      · simp
      · have : decide (((F.length + 20 : Nat) : Int) ≤ n1) = false := by subst h1; simp; omega
        simp only [nZ, this, cond_false]
    · obtain ⟨X, R, rfl, hX⟩ : ∃ X R, G = X ++ R ∧ X.length = 20 := ⟨G.take 20, G.drop 20, (List.take_append_drop _ _).symm, by rw [List.length_take]; omega⟩
      simp only [List.length_append] at hn hl h1 hg
      obtain ⟨D, d1, d2, d3⟩ := aAr C (P := F) (A := X) (T := R) (a := ((F.length : Nat) : Int)) (b := ((F.length + 20 : Nat) : Int)) rfl (by rw [hX]) (fun x hx => hG x (by simp [hx])) (by simp only [List.length_append]; omega)
      have hD : D.length = 20 := by rw [d1.length_eq, hX]
      obtain ⟨G1, G2, g1, g2, g3, g4⟩ := ih (F ++ D) R (by omega) (fun x hx => hG x (by simp [hx])) (by rw [h1]; simp only [List.length_append]; congr 1; omega) (by simp only [List.length_append]; omega)
      refine ⟨D ++ G1, G2, ?_, g2, fun H h2 h3 => ?_, ?_⟩
      · have := d1.append g1
        simpa using this
      · rw [List.append_assoc]; exact oV.cons hD d2 (g3 H h2 h3)
      · have hb : (fun s : List α × Int × Int => nZ cmp n1 20 s.1 s.2.1 s.2.2) (F ++ (X ++ R), ((F.length : Nat) : Int), ((F.length + 20 : Nat) : Int)) = some (.inl (F ++ D ++ R, (((F ++ D).length : Nat) : Int), (((F ++ D).length + 20 : Nat) : Int))) := by
          show nZ cmp n1 20 _ _ _ = _
          have : decide (((F.length + 20 : Nat) : Int) ≤ n1) = true := by subst h1; simp; omega
          simp only [nZ, this, cond_true]
          rw [show F ++ (X ++ R) = F ++ X ++ R by simp, d3]
          simp only [Option.bind_some, List.length_append, hD]
          rw [wr (by omega) (by omega)]
          congr 1
        rw [dS hb, g4]
        simp only [List.length_append, List.append_assoc]
        congr 2
        congr 1; omega

theorem aDJ (C : Cmp ok le cmp) {n1 : Int} {bs : Nat} (hbs : 0 < bs) (hbs' : bs ≤ 1099511627776) : ∀ (n : Nat) (F G : List α), G.length ≤ n → Oks ok G → oV le bs G → n1 = ((F.length + G.length : Nat) : Int) → (F ++ G).length ≤ 1099511627776 →
    ∃ G1 G2, (G1 ++ G2).Perm G ∧ G2.length < 2 * bs ∧ oV le bs G2 ∧ (∀ H, H.length ≤ 2 * bs → Srt le H → oV le (2 * bs) (G1 ++ H)) ∧
      lp (fun s : List α × Int × Int => oD cmp n1 (bs : Int) s.1 s.2.1 s.2.2) (F ++ G, ((F.length : Nat) : Int), ((F.length + 2 * bs : Nat) : Int)) = some (F ++ G1 ++ G2, ((F.length + G1.length : Nat) : Int)) := by
  have stop : ∀ (F G : List α), oV le bs G → G.length < 2 * bs → n1 = ((F.length + G.length : Nat) : Int) → ∃ G1 G2, (G1 ++ G2).Perm G ∧ G2.length < 2 * bs ∧ oV le bs G2 ∧ (∀ H, H.length ≤ 2 * bs → Srt le H → oV le (2 * bs) (G1 ++ H)) ∧
      lp (fun s : List α × Int × Int => oD cmp n1 (bs : Int) s.1 s.2.1 s.2.2) (F ++ G, ((F.length : Nat) : Int), ((F.length + 2 * bs : Nat) : Int)) = some (F ++ G1 ++ G2, ((F.length + G1.length : Nat) : Int)) := by
    intro F G hG hg h1
    refine ⟨[], G, by simp, hg, hG, fun H h2 h3 => oV.last (by simpa using h2) (by simpa using h3), ?_⟩
    rw [cM (r := (F ++ G, ((F.length : Nat) : Int)))]
    · simp
    · have : decide (((F.length + 2 * bs : Nat) : Int) ≤ n1) = false := by subst h1; simp; omega
      show oD cmp n1 _ _ _ _ = _
      simp only [oD, this, cond_false]
  intro n
  induction n with
  | zero => intro F G hn _ hB h1 _; exact stop F G hB (by omega) h1
  | succ n ih =>
    intro F G hn hG hB h1 hl
    by_cases hg : G.length < 2 * bs
    · exact stop F G hB hg h1
    · obtain ⟨x, y, R, rfl, x1, y1, sx, sy, hR⟩ := hB.aDs hbs (by omega)
      simp only [List.length_append] at hn hl h1 hg
      obtain ⟨D, d1, d2, d3⟩ := aAG C (P := F) (A := x) (B := y) (S := R) (d := F ++ (x ++ y ++ R)) (a := ((F.length : Nat) : Int)) (m := ((F.length + bs : Nat) : Int)) (b := ((F.length + 2 * bs : Nat) : Int)) (by simp) (fun h => by rw [h] at x1; simp at x1; omega) (fun h => by rw [h] at y1; simp at y1; omega)
        (fun z hz => hG z (by simp [hz])) (fun z hz => hG z (by simp [hz])) sx sy rfl (by rw [x1]) (by rw [x1, y1]; congr 1; omega) (by simp only [List.length_append]; omega)
      have hD : D.length = 2 * bs := by rw [d1.length_eq]; simp only [List.length_append]; omega
      obtain ⟨G1, G2, g1, g2, g3, g4, g5⟩ := ih (F ++ D) R (by omega) (fun z hz => hG z (by simp [hz])) hR (by rw [h1]; simp only [List.length_append]; congr 1; omega) (by simp only [List.length_append]; omega)
      refine ⟨D ++ G1, G2, ?_, g2, g3, fun H h2 h3 => ?_, ?_⟩
      · have := d1.append g1
        simpa using this
      · rw [List.append_assoc]; exact oV.cons hD d2 (g4 H h2 h3)
      · have hb : (fun s : List α × Int × Int => oD cmp n1 (bs : Int) s.1 s.2.1 s.2.2) (F ++ (x ++ y ++ R), ((F.length : Nat) : Int), ((F.length + 2 * bs : Nat) : Int)) = some (.inl (F ++ D ++ R, (((F ++ D).length : Nat) : Int), (((F ++ D).length + 2 * bs : Nat) : Int))) := by
          show oD cmp n1 _ _ _ _ = _
          have : decide (((F.length + 2 * bs : Nat) : Int) ≤ n1) = true := by subst h1; simp; omega
          have w1 : IntKind.i64.wrap (((F.length : Nat) : Int) + (bs : Int)) = ((F.length + bs : Nat) : Int) := by rw [wr (by omega) (by omega)]; omega
          have w2 : IntKind.i64.wrap (2 * (bs : Int)) = 2 * (bs : Int) := wr (by omega) (by omega)
          have w3 : IntKind.i64.wrap (((F.length + 2 * bs : Nat) : Int) + 2 * (bs : Int)) = ((F.length + 2 * bs + 2 * bs : Nat) : Int) := by rw [wr (by omega) (by omega)]; omega
          simp only [oD, this, cond_true, w1, w2, w3, d3, Option.bind_some, List.length_append, hD]
        rw [dS hb, g5]
        simp only [List.length_append, List.append_assoc]
        congr 2
        congr 1; omega

theorem aAf (C : Cmp ok le cmp) {d : List α} {bs : Nat} (hbs : 0 < bs) (hbs' : bs < d.length) (ho : Oks ok d) (hB : oV le bs d) (hl : d.length ≤ 1099511627776) :
    ∃ r, r.Perm d ∧ oV le (2 * bs) r ∧ kX cmp ((d.length : Nat) : Int) d (bs : Int) = some (.inl (r, ((2 * bs : Nat) : Int))) := by
  obtain ⟨G1, G2, g1, g2, g3, g4, g5⟩ := aDJ C (n1 := ((d.length : Nat) : Int)) hbs (by omega) d.length [] d (Nat.le_refl _) ho hB (by simp) (by simpa using hl)
  have hlen := g1.length_eq
  simp only [List.length_append] at hlen
  have w2 : IntKind.i64.wrap (2 * (bs : Int)) = ((2 * bs : Nat) : Int) := by rw [wr (by omega) (by omega)]; omega
  have w4 : IntKind.i64.wrap ((bs : Int) * 2) = ((2 * bs : Nat) : Int) := by rw [wr (by omega) (by omega)]; omega
  have hlt : decide ((bs : Int) < ((d.length : Nat) : Int)) = true := by simp; omega
  simp only [List.nil_append, List.length_nil, Nat.zero_add, Int.natCast_zero] at g5
  have w1 : IntKind.i64.wrap (((G1.length : Nat) : Int) + (bs : Int)) = ((G1.length + bs : Nat) : Int) := by rw [wr (by omega) (by omega)]; omega
  by_cases hg : bs < G2.length
  · obtain ⟨x, y, rfl, x1, sx, hy⟩ := g3.split hg
    simp only [List.length_append] at g2 hg hlen
    have sy : Srt le y := hy.srt (by omega)
    have og : Oks ok (G1 ++ (x ++ y)) := ho.perm g1
    obtain ⟨D, d1, d2, d3⟩ := aAG C (P := G1) (A := x) (B := y) (S := []) (d := G1 ++ (x ++ y)) (a := ((G1.length : Nat) : Int)) (m := ((G1.length + bs : Nat) : Int)) (b := ((d.length : Nat) : Int)) (by simp) (fun h => by rw [h] at x1; simp at x1; omega) (fun h => by rw [h] at hg; simp at hg; omega)
      (fun z hz => og z (by simp [hz])) (fun z hz => og z (by simp [hz])) sx sy rfl (by rw [x1]) (by congr 1; omega) (by simp only [List.length_append]; omega)
    refine ⟨G1 ++ D, ?_, ?_, ?_⟩
    · exact (d1.append_left G1).trans g1
    · exact g4 D (by rw [d1.length_eq]; simp only [List.length_append]; omega) d2
    · have hc : decide (((G1.length + bs : Nat) : Int) < ((d.length : Nat) : Int)) = true := by simp; omega
      simp only [kX, hlt, cond_true, w2, yI, g5, Option.bind_some, yK, w1, hc, d3, CG, w4]
      simp
  · refine ⟨G1 ++ G2, g1, g4 G2 (by omega) (g3.srt (by omega)), ?_⟩
    have hc : decide (((G1.length + bs : Nat) : Int) < ((d.length : Nat) : Int)) = false := by simp; omega
    simp only [kX, hlt, cond_true, w2, yI, g5, Option.bind_some, yK, w1, hc, cond_false, CG, w4]

theorem aAu (C : Cmp ok le cmp) : ∀ (n : Nat) (d : List α) (bs : Nat), d.length - bs ≤ n → 0 < bs → Oks ok d → oV le bs d → d.length ≤ 1099511627776 →
    ∃ r, r.Perm d ∧ Srt le r ∧ lp (fun s : List α × Int => kX cmp ((d.length : Nat) : Int) s.1 s.2) (d, (bs : Int)) = some r := by
  have stop : ∀ (d : List α) (bs : Nat), d.length ≤ bs → oV le bs d → ∃ r, r.Perm d ∧ Srt le r ∧ lp (fun s : List α × Int => kX cmp ((d.length : Nat) : Int) s.1 s.2) (d, (bs : Int)) = some r := by
    intro d bs h hB
    refine ⟨d, List.Perm.refl _, hB.srt h, cM ?_⟩
    show kX cmp _ _ _ = _
    have : decide ((bs : Int) < ((d.length : Nat) : Int)) = false := by simp; omega
    simp only [kX, this, cond_false]
  intro n
  induction n with
  | zero => intro d bs hn _ _ hB _; exact stop d bs (by omega) hB
  | succ n ih =>
    intro d bs hn hbs ho hB hl
    by_cases h : d.length ≤ bs
    · exact stop d bs h hB
    · obtain ⟨r, r1, r2, r3⟩ := aAf C hbs (by omega) ho hB hl
      obtain ⟨r', e1, e2, e3⟩ := ih r (2 * bs) (by rw [r1.length_eq]; omega) (by omega) (ho.perm r1) r2 (by rw [r1.length_eq]; exact hl)
      rw [r1.length_eq] at e3
      refine ⟨r', e1.trans r1, e2, ?_⟩
      rw [dS (show (fun s : List α × Int => kX cmp ((d.length : Nat) : Int) s.1 s.2) (d, (bs : Int)) = _ from r3)]
      exact e3

theorem RJ (C : Cmp ok le cmp) {d : List α} (ho : Oks ok d) (hl : d.length ≤ 1099511627776) : ∃ r, r.Perm d ∧ Srt le r ∧ AI d ((d.length : Nat) : Int) cmp = some r := by
  obtain ⟨G1, G2, g1, g2, g3, g4⟩ := aDI C (n1 := ((d.length : Nat) : Int)) d.length [] d (Nat.le_refl _) ho (by simp) (by simpa using hl)
  have hlen := g1.length_eq
  simp only [List.length_append] at hlen
  have og := ho.perm g1
  obtain ⟨D, d1, d2, d3⟩ := aAr C (P := G1) (A := G2) (T := []) (a := ((G1.length : Nat) : Int)) (b := ((d.length : Nat) : Int)) rfl (by congr 1; omega) (fun z hz => og z (by simp [hz])) (by simp only [List.length_append, List.length_nil]; omega)
  have hp : (G1 ++ D).Perm d := (d1.append_left G1).trans g1
  obtain ⟨r, r1, r2, r3⟩ := aAu C (G1 ++ D).length (G1 ++ D) 20 (by omega) (by omega) (ho.perm hp) (g3 D (by rw [d1.length_eq]; omega) d2) (by rw [hp.length_eq]; exact hl)
  refine ⟨r, r1.trans hp, r2, ?_⟩
  simp only [List.nil_append, List.length_nil, Nat.zero_add, Int.natCast_zero] at g4
  unfold AI CQ
  have g4' : lp (fun s : List α × Int × Int => nZ cmp ((d.length : Nat) : Int) 20 s.1 s.2.1 s.2.2) (d, (0 : Int), (20 : Int)) = some (G1 ++ G2, ((G1.length : Nat) : Int)) := g4
  rw [g4']
  simp only [Option.bind_some, CF]
  rw [show G1 ++ G2 = G1 ++ G2 ++ [] by simp, d3]
  simp only [Option.bind_some, CJ, List.append_nil]
  rw [hp.length_eq] at r3
  have r3' : lp (fun s : List α × Int => kX cmp ((d.length : Nat) : Int) s.1 s.2) (G1 ++ D, (20 : Int)) = some r := r3
  rw [r3']; rfl

end Go.Abs
namespace Go.Abs
open Go
def CD (n : Int) : Bool := decide (n ≤ 1048576) && decide (-1048576 ≤ n)

theorem YC (n : Int) : yX n = some (CD n) := rfl

def rZ (last : Int) (j : aD) : Bool := decide (j.At ≤ last) || decide (1125899906842624 ≤ j.At) || decide (j.Net = 0) || !CD j.Net

def chk (last : Int) : List aD → Bool
  | [] => true
  | j :: r => !rZ last j && chk j.At r

def qU (f : List aD) : Bool := decide (f.length ≤ 1024) && chk (-2) f

theorem TX {f : List aD} {i : Nat} {a : aD} {last : Int} (ha : f[i]? = some a) (hl : f.length < 4611686018427387904) :
    nX f (f.length : Nat) last i = some (if rZ last a then .inr (.inr false) else .inl (a.At, ((i + 1 : Nat) : Int))) := by
  obtain ⟨d1, d2, d3, d4⟩ := idx ha hl
  simp only [nX, d1, cond_true, aT d2, d3, d4, YC]
  unfold rZ
  cases h : (decide (a.At ≤ last) || decide (1125899906842624 ≤ a.At) || decide (a.Net = 0)) <;> cases h2 : CD a.Net <;> simp [dU]

theorem UW : ∀ (f : List aD) (last : Int), zR (fun last (j : aD) => some (if rZ last j then .inr (.inr false) else .inl j.At)) (fun _ => (.inl () : Unit ⊕ Bool)) last f = some (if chk last f then .inl () else .inr false)
  | [], last => by simp [zR, chk]
  | j :: r, last => by
    cases h : rZ last j
    · rw [YZ (s' := j.At) (by simp [h])]
      rw [UW r j.At]
      simp [chk, h]
    · rw [YU (x := .inr false) (by simp [h])]
      simp [chk, h]

theorem aBg (f : List aD) : uS f = some (qU f) := by
  unfold uS qU
  by_cases hl : f.length ≤ 1024
  · have h1 : decide ((1024 : Int) < ((f.length : Nat) : Int)) = false := by simp; omega
    rw [h1, cond_false]
    unfold CH
    have key := aBI (l := f) (body := fun s : Int × Int => nX f (f.length : Nat) s.1 s.2) (fun last i => (last, i)) _ _
      (fun i a s ha => by
        constructor
        · intro s' hs
          show nX f (f.length : Nat) s i = _
          rw [TX ha (by omega)]
          split at hs <;> simp_all
        · intro x hs
          show nX f (f.length : Nat) s i = _
          rw [TX ha (by omega)]
          split at hs <;> simp_all)
      (fun s => by show nX f (f.length : Nat) s (f.length : Nat) = _; simp only [nX, cY, cond_false]) (UW f (-2))
    rw [key]
    cases h : chk (-2) f <;> simp [yM, hl]
  · have h1 : decide ((1024 : Int) < ((f.length : Nat) : Int)) = true := by simp; omega
    rw [h1, cond_true]
    simp [hl]

theorem nD {last : Int} {j : aD} : rZ last j = false ↔ last < j.At ∧ j.At < 1125899906842624 ∧ j.Net ≠ 0 ∧ j.Net ≤ 1048576 ∧ -1048576 ≤ j.Net := by
  simp [rZ, CD]
  omega

def GB (last : Int) : List aD → Prop
  | [] => True
  | j :: r => (last < j.At ∧ j.At < 1125899906842624 ∧ j.Net ≠ 0 ∧ j.Net ≤ 1048576 ∧ -1048576 ≤ j.Net) ∧ GB j.At r

theorem YP : ∀ {f : List aD} {last : Int}, chk last f = true ↔ GB last f
  | [], last => by simp [chk, GB]
  | j :: r, last => by simp [chk, GB, nD, YP]

theorem EA {f : List aD} : qU f = true ↔ f.length ≤ 1024 ∧ GB (-2) f := by simp [qU, YP]

theorem GB.above : ∀ {f : List aD} {last : Int}, GB last f → ∀ j ∈ f, last < j.At ∧ j.At < 1125899906842624 ∧ j.Net ≠ 0 ∧ j.Net ≤ 1048576 ∧ -1048576 ≤ j.Net
  | [], _, _, j, hj => by simp at hj
  | a :: r, last, h, j, hj => by
    rcases List.mem_cons.1 hj with rfl | hj
    · exact h.1
    · have := h.2.above j hj
      have h1 := h.1.1
      exact ⟨by omega, this.2⟩

def val (f : List aD) (t : Int) : Int := (f.map fun j => if j.At ≤ t then j.Net else 0).sum

theorem AG (t : Int) : val [] t = 0 := rfl

theorem eJ (j : aD) (r : List aD) (t : Int) : val (j :: r) t = (if j.At ≤ t then j.Net else 0) + val r t := by simp [val]

theorem PC (f g : List aD) (t : Int) : val (f ++ g) t = val f t + val g t := by simp [val]

theorem QT : ∀ {f : List aD} {b : Int} (t : Int), 0 ≤ b → (∀ j ∈ f, j.Net ≤ b ∧ -b ≤ j.Net) → val f t ≤ b * f.length ∧ -(b * f.length) ≤ val f t
  | [], b, t, _, _ => by simp [val]
  | j :: r, b, t, hb, h => by
    obtain ⟨h1, h2⟩ := QT t hb (fun k hk => h k (List.mem_cons_of_mem _ hk))
    have h3 := h j (List.mem_cons_self ..)
    rw [eJ]
    simp only [List.length_cons, Int.natCast_add, Int.natCast_one, Int.mul_add, Int.mul_one]
    split <;> omega

theorem JP {f : List aD} {t : Int} (h : ∀ j ∈ f, t < j.At) : val f t = 0 := by
  induction f with
  | nil => rfl
  | cons j r ih =>
    rw [eJ, ih (fun k hk => h k (List.mem_cons_of_mem _ hk))]
    have := h j (List.mem_cons_self ..)
    rw [if_neg (by omega)]; rfl

theorem aDk (f : List aD) : vZ f = some (if qU f then (f, 0) else ([], 7)) := by
  unfold vZ
  rw [aBg]
  cases h : qU f <;> simp

end Go.Abs
namespace Go.Abs
open Go
section both
variable {op : Int → Int → Option Int} {f g r : List aD} {out : List aD} {a b was t : Int} {j : aD}
end both
def emit (p v was : Int) : List aD := if v = was then [] else [⟨p, v - was⟩]

def uV (was : Int) : List (Int × Int) → List aD
  | [] => []
  | x :: r => emit x.1 x.2 was ++ uV x.2 r

def merge (f g : List aD) (a b : Int) : List (Int × Int × Int) :=
  match f, g with
  | [], [] => []
  | j :: f, [] => (j.At, a + j.Net, b) :: merge f [] (a + j.Net) b
  | [], k :: g => (k.At, a, b + k.Net) :: merge [] g a (b + k.Net)
  | j :: f, k :: g =>
    if j.At < k.At then (j.At, a + j.Net, b) :: merge f (k :: g) (a + j.Net) b
    else if k.At < j.At then (k.At, a, b + k.Net) :: merge (j :: f) g a (b + k.Net)
    else (j.At, a + j.Net, b + k.Net) :: merge f g (a + j.Net) (b + k.Net)

termination_by f.length + g.length
end Go.Abs
namespace Go.Abs
open Go
def comb (OP : Int → Int → Int) (f g : List aD) : List aD := uV 0 ((merge f g 0 0).map fun x => (x.1, OP x.2.1 x.2.2))

def told (f : List aD) : List aD × Int := if qU f then (f, 0) else ([], 7)

theorem aBR (f : List aD) : vZ f = some (told f) := aDk f

def two (OP : Int → Int → Int) (f g : List aD) : List aD × Int := if qU f && qU g then told (comb OP f g) else ([], 2)

end Go.Abs
namespace Go.Abs
open Go
theorem aCj (p v was t : Int) : val (emit p v was) t = if p ≤ t then v - was else 0 := by
  unfold emit
  by_cases h : v = was
  · rw [if_pos h, AG, h]; split <;> omega
  · rw [if_neg h, eJ, AG]; simp

end Go.Abs
namespace Go.Abs
open Go
def yW (f : List aD) : Nat → Int
  | 0 => -2
  | k + 1 => (f.getD k default).At

theorem WO {f : List aD} {i : Nat} {a : aD} {last : Int} (ha : f[i]? = some a) (hl : f.length ≤ 1024) (hlast : last = yW f i) (hp : -2 ≤ last) (hp' : 0 < i → -1 ≤ last) :
    mX f i = some (if rZ last a then .inr (.inr false) else .inl ((i + 1 : Nat) : Int)) := by
  obtain ⟨d1, d2, d3, d4⟩ := idx ha (by omega)
  have hlt : i < f.length := (List.getElem?_eq_some_iff.1 ha).1
  simp only [mX, d1, cond_true, d3, d4]
  rw [aT d2, aT (fun _ => d2), aT (fun _ => d2), aT (fun _ => d2), aT (fun _ => d2), aT (fun _ => d2)]
  cases i with
  | zero =>
    rw [aT (fun h => by simp at h)]
    have hm2 : last = -2 := hlast
    subst hm2
    by_cases hb : rZ (-2) a = true
    · rw [if_pos hb]
      have hx : (((((decide (a.At < -1)) || (decide (1125899906842624 ≤ a.At))) || (decide (a.Net = 0))) || (decide (1048576 < a.Net))) || (decide (a.Net < -1048576))) = true := by
        simp [rZ, CD] at hb ⊢; omega
      rw [hx, cond_true]
    · have hb' : rZ (-2) a = false := by simpa using hb
      rw [if_neg hb]
      rw [nD] at hb'
      have hx : (((((decide (a.At < -1)) || (decide (1125899906842624 ≤ a.At))) || (decide (a.Net = 0))) || (decide (1048576 < a.Net))) || (decide (a.Net < -1048576))) = false := by
        simp; omega
      rw [hx, cond_false]
      simp
  | succ k =>
    have hw : IntKind.i64.wrap (((k + 1 : Nat) : Int) - 1) = (k : Int) := by rw [fA (by omega) (by omega)]; omega
    have hg : List.getD f (Int.toNat (k : Int)) default = f.getD k default := by rw [Int.toNat_natCast]
    rw [hw, hg, aT (fun _ => ⟨by omega, by omega⟩)]
    have hpos : decide ((0 : Int) < ((k + 1 : Nat) : Int)) = true := by simp
    have hp1 := hp' (by omega)
    have hl2 : (f.getD k default).At = last := hlast.symm
    rw [hpos, Bool.true_and, hl2]
    by_cases hb : rZ last a = true
    · rw [if_pos hb]
      by_cases hx : (((((decide (a.At < -1)) || (decide (1125899906842624 ≤ a.At))) || (decide (a.Net = 0))) || (decide (1048576 < a.Net))) || (decide (a.Net < -1048576))) = true
      · rw [hx, cond_true]
      · have hx' : (((((decide (a.At < -1)) || (decide (1125899906842624 ≤ a.At))) || (decide (a.Net = 0))) || (decide (1048576 < a.Net))) || (decide (a.Net < -1048576))) = false := by simpa using hx
        have hy : decide (a.At ≤ last) = true := by
          simp [rZ, CD] at hb hx' ⊢; omega
        rw [hx', cond_false, hy, cond_true]
    · have hb' : rZ last a = false := by simpa using hb
      rw [if_neg hb]
      rw [nD] at hb'
      have hx : (((((decide (a.At < -1)) || (decide (1125899906842624 ≤ a.At))) || (decide (a.Net = 0))) || (decide (1048576 < a.Net))) || (decide (a.Net < -1048576))) = false := by
        simp; omega
      have hy : decide (a.At ≤ last) = false := by simp; omega
      rw [hx, cond_false, hy, cond_false]

theorem QS {f : List aD} (hl : f.length ≤ 1024) : ∀ (m k : Nat), f.length - k = m → k ≤ f.length → -2 ≤ yW f k → (0 < k → -1 ≤ yW f k) → lp (fun s => mX f s) (k : Int) = some (if chk (yW f k) (f.drop k) = true then .inl () else .inr false)
  | 0, k, hm, hk, _, _ => by
    have : k = f.length := by omega
    subst this
    rw [List.drop_length]
    refine cM ?_
    show mX f _ = _
    simp [mX, chk]
  | m + 1, k, hm, hk, hp, hp' => by
    have h1 : k < f.length := by omega
    have hb := WO (List.getElem?_eq_getElem h1) hl rfl hp hp'
    have e1 : f.drop k = f[k] :: f.drop (k + 1) := List.drop_eq_getElem_cons h1
    have hpa : yW f (k + 1) = f[k].At := by simp [yW, List.getD_eq_getElem?_getD, h1]
    rw [e1]
    by_cases h : rZ (yW f k) f[k] = true
    · rw [if_pos h] at hb
      rw [cM (show (fun s => mX f s) (k : Int) = _ from hb)]
      simp [chk, h]
    · rw [if_neg h] at hb
      have h' : rZ (yW f k) f[k] = false := by simpa using h
      have := nD.1 h'
      rw [dS (show (fun s => mX f s) (k : Int) = _ from hb), QS hl m (k + 1) (by omega) (by omega) (by rw [hpa]; omega) (fun _ => by rw [hpa]; omega), hpa]
      simp [chk, h']

theorem QJ (f : List aD) : tK f = some (qU f) := by
  unfold tK qU
  by_cases hl : f.length ≤ 1024
  · have h1 : decide ((1024 : Int) < ((f.length : Nat) : Int)) = false := by simp; omega
    rw [h1, cond_false]
    unfold AT
    have := QS hl f.length 0 rfl (Nat.zero_le _) (by simp [yW]) (by omega)
    simp only [Int.natCast_zero, List.drop_zero, yW] at this
    rw [this]
    cases h : chk (-2) f <;> simp [xI, hl]
  · have h1 : decide ((1024 : Int) < ((f.length : Nat) : Int)) = true := by simp; omega
    rw [h1, cond_true]
    simp [hl]

end Go.Abs
namespace Go.Abs
open Go
def ZD (f : List aD) : Int := (f.map aD.Net).sum

def PN (t : Int) : List aD → List aD
  | [] => []
  | j :: r => if t ≤ j.At then [] else j :: PN t r

def aft (t : Int) : List aD → List aD
  | [] => []
  | j :: r => if t ≤ j.At then j :: r else aft t r

def aDL (t : Int) (f : List aD) : List aD := PN t f ++ (if ZD (PN t f) = 0 then [] else [⟨t, -ZD (PN t f)⟩])

def ahead (f : List aD) (t : Int) : List aD × Int :=
  if qU f then (if 1125899906842624 ≤ t then (f, 0) else told (aDL t f)) else ([], 2)

end Go.Abs
namespace Go.Abs
open Go
def aEv (t : Int) (f : List aD) : List aD := (if ZD (PN t f) = 0 then [] else [⟨-1, ZD (PN t f)⟩]) ++ aft t f

def rest (f : List aD) (t : Int) : List aD × Int :=
  if qU f then (if 1125899906842624 ≤ t then ([], 0) else if t ≤ -1 then (f, 0) else told (aEv t f)) else ([], 2)

end Go.Abs
namespace Go.Abs
open Go
def Up (last : Int) : List aD → Prop
  | [] => True
  | j :: r => (last < j.At ∧ j.At < 1125899906842624 ∧ j.Net ≠ 0) ∧ Up j.At r

theorem Up.above : ∀ {f : List aD} {last : Int}, Up last f → ∀ j ∈ f, last < j.At ∧ j.At < 1125899906842624 ∧ j.Net ≠ 0
  | [], _, _, j, hj => by simp at hj
  | a :: r, last, h, j, hj => by
    rcases List.mem_cons.1 hj with rfl | hj
    · exact h.1
    · have := h.2.above j hj
      have h1 := h.1.1
      exact ⟨by omega, this.2⟩

theorem Up.KF {l t : Int} {f : List aD} (h : Up l f) (ht : t ≤ l) : val f t = 0 := JP fun j hj => by have := (h.above j hj).1; omega

theorem Up.weaken {a b : Int} {f : List aD} (h : Up b f) (hab : a ≤ b) : Up a f := by
  cases f with
  | nil => trivial
  | cons j r => exact ⟨⟨by have := h.1.1; omega, h.1.2⟩, h.2⟩

theorem Up.ext : ∀ {f g : List aD} {last : Int}, Up last f → Up last g → (∀ t, last < t → t < 1125899906842624 → val f t = val g t) → f = g
  | [], [], _, _, _, _ => rfl
  | j :: r, [], last, hf, _, h => by
    have := h j.At hf.1.1 hf.1.2.1
    rw [eJ, if_pos (Int.le_refl _), hf.2.KF (Int.le_refl _), AG] at this
    exact absurd (by omega) hf.1.2.2
  | [], k :: s, last, _, hg, h => by
    have := h k.At hg.1.1 hg.1.2.1
    rw [eJ, if_pos (Int.le_refl _), hg.2.KF (Int.le_refl _), AG] at this
    exact absurd (by omega) hg.1.2.2
  | j :: r, k :: s, last, hf, hg, h => by
    have h1 := h j.At hf.1.1 hf.1.2.1
    have h2 := h k.At hg.1.1 hg.1.2.1
    rw [eJ, if_pos (Int.le_refl _), hf.2.KF (Int.le_refl _), eJ] at h1
    rw [eJ, eJ k, if_pos (Int.le_refl _), hg.2.KF (Int.le_refl _)] at h2
    have n1 := hf.1.2.2
    have n2 := hg.1.2.2
    have he : j.At = k.At := by
      rcases Int.lt_trichotomy j.At k.At with h3 | h3 | h3
      · rw [if_neg (by omega), hg.2.KF (by omega)] at h1; omega
      · exact h3
      · rw [if_neg (by omega), hf.2.KF (by omega)] at h2; omega
    rw [if_pos (by omega), hg.2.KF (by omega)] at h1
    have hj : j = k := by
      obtain ⟨a, b⟩ := j; obtain ⟨c, d⟩ := k
      simp only at he h1
      simp only [Int.add_zero] at h1
      rw [he, h1]
    subst hj
    rw [hf.2.ext hg.2 (fun t ht ht' => by
      have := h t (by have := hf.1.1; omega) ht'
      rw [eJ, eJ] at this; omega)]

def Inc (last : Int) : List Int → Prop
  | [] => True
  | p :: r => (last < p ∧ p < 1125899906842624) ∧ Inc p r

theorem Inc.above : ∀ {ps : List Int} {last : Int}, Inc last ps → ∀ p ∈ ps, last < p ∧ p < 1125899906842624
  | [], _, _, j, hj => by simp at hj
  | a :: r, last, h, j, hj => by
    rcases List.mem_cons.1 hj with rfl | hj
    · exact h.1
    · have := h.2.above j hj
      have h1 := h.1.1
      exact ⟨by omega, this.2⟩

theorem HL : ∀ {l : List (Int × Int)} {last was : Int}, Inc last (l.map Prod.fst) → Up last (uV was l)
  | [], _, _, _ => trivial
  | x :: r, last, was, h => by
    simp only [uV]
    have ih : Up x.1 (uV x.2 r) := HL h.2
    have h1 : last < x.1 ∧ x.1 < 1125899906842624 := h.1
    unfold emit
    split
    · exact ih.weaken (by omega)
    · exact ⟨⟨h1.1, h1.2, by simp only; omega⟩, ih⟩

theorem JZ {F : Int → Int} : ∀ {ps : List Int} {last : Int}, Inc last ps → (∀ s t, last ≤ s → s ≤ t → t < 1125899906842624 → (∀ p ∈ ps, ¬ (s < p ∧ p ≤ t)) → F s = F t) →
    ∀ t, last ≤ t → t < 1125899906842624 → val (uV (F last) (ps.map fun p => (p, F p))) t = F t - F last
  | [], last, _, hF, t, h1, h2 => by
    have := hF last t (Int.le_refl _) h1 h2 (by simp)
    simp [uV, val, this]
  | p :: r, last, hi, hF, t, h1, h2 => by
    simp only [List.map_cons, uV]
    rw [PC, aCj]
    by_cases hp : p ≤ t
    · rw [if_pos hp, JZ (F := F) hi.2 (fun s t' hs hst ht' hn => hF s t' (by have := hi.1.1; omega) hst ht' (fun q hq => by
        rcases List.mem_cons.1 hq with rfl | hq
        · omega
        · exact hn q hq)) t hp h2]
      omega
    · have := hF last t (Int.le_refl _) h1 h2 (fun q hq => by
        rcases List.mem_cons.1 hq with rfl | hq
        · omega
        · have := (hi.2.above q hq).1; omega)
      rw [if_neg hp, Up.KF (HL (last := p) (by rw [List.map_map]; simpa [Function.comp_def] using hi.2)) (by omega)]
      omega

theorem aCa {F : Int → Int} (h2 : F (-2) = 0) {ps : List Int} (hi : Inc (-2) ps) (hF : ∀ s t, -2 ≤ s → s ≤ t → t < 1125899906842624 → (∀ p ∈ ps, ¬ (s < p ∧ p ≤ t)) → F s = F t) {h : List aD} (hh : Up (-2) h) (hv : ∀ t, -2 < t → t < 1125899906842624 → val h t = F t) :
    uV 0 (ps.map fun p => (p, F p)) = h := by
  refine (HL (by rw [List.map_map]; simpa [Function.comp_def] using hi)).ext hh fun t h3 h4 => ?_
  have := JZ hi hF t (by omega) h4
  rw [h2] at this
  rw [this, hv t h3 h4]; omega

end Go.Abs
namespace Go.Abs
open Go
theorem WX {f : List aD} (t : Int) (hb : ∀ j ∈ f, j.Net ≤ 1048576 ∧ -1048576 ≤ j.Net) (hl : f.length ≤ 1099511627776) : vI f t = some (val f t) := by
  unfold vI yB
  rw [mV (l := f) (body := fun s : Int × Int => kI f t s.1 s.2) (fun v i => (v, i)) (fun v r => v + val r t)
    (fun v r => (∀ j ∈ r, j.Net ≤ 1048576 ∧ -1048576 ≤ j.Net) ∧ r.length ≤ 1099511627776 ∧ v ≤ 1048576 * (1099511627776 - r.length) ∧ -(1048576 * (1099511627776 - r.length)) ≤ v) 0 ?_ ?_ ?_]
  · simp [uD]
  · intro i a r v ha ⟨h1, h2, h3, h4⟩
    obtain ⟨d1, d2, d3, d4⟩ := idx ha (by omega)
    have hj := h1 a (List.mem_cons_self ..)
    simp only [List.length_cons] at h2 h3 h4
    left
    by_cases h : a.At ≤ t
    · refine ⟨v + a.Net, ?_, ⟨fun j hj => h1 j (List.mem_cons_of_mem _ hj), by omega, by omega, by omega⟩, ?_⟩
      · show kI f t v i = _
        have hw : IntKind.i64.wrap (v + a.Net) = v + a.Net := fA (by omega) (by omega)
        simp only [kI, rO, d1, cond_true, aT d2, d3, d4, h, decide_true, hw]
      · show v + a.Net + val r t = v + val (a :: r) t
        rw [eJ, if_pos h]; omega
    · refine ⟨v, ?_, ⟨fun j hj => h1 j (List.mem_cons_of_mem _ hj), by omega, by omega, by omega⟩, ?_⟩
      · show kI f t v i = _
        simp only [kI, rO, d1, cond_true, aT d2, d3, d4, h, decide_false, cond_false]
      · show v + val r t = v + val (a :: r) t
        rw [eJ, if_neg h]; omega
  · intro s _
    show kI f t s (f.length : Nat) = _
    simp only [kI, cY, cond_false]
    simp [val]
  · exact ⟨hb, hl, by omega, by omega⟩

def pZ (t : Int) : List Int → List Int
  | [] => [t]
  | p :: r => if p = t then p :: r else if t < p then t :: p :: r else p :: pZ t r

theorem QM {t x : Int} : ∀ {ps : List Int}, x ∈ pZ t ps ↔ x = t ∨ x ∈ ps
  | [] => by simp [pZ]
  | p :: r => by
    unfold pZ
    split
    · rename_i h; subst h; simp
    · split
      · simp
      · simp only [List.mem_cons, QM (ps := r)]; constructor <;> (intro h; rcases h with h | h | h <;> simp [h])

theorem KU {t : Int} : ∀ {ps : List Int} {last : Int}, Inc last ps → last < t → t < 1125899906842624 → Inc last (pZ t ps)
  | [], last, _, h1, h2 => ⟨⟨h1, h2⟩, trivial⟩
  | p :: r, last, h, h1, h2 => by
    unfold pZ
    split
    · exact h
    · split
      · rename_i h3 h4
        exact ⟨⟨h1, h2⟩, ⟨h4, h.1.2⟩, h.2⟩
      · exact ⟨h.1, KU h.2 (by omega) h2⟩

theorem KI {t : Int} : ∀ {ps : List Int}, (pZ t ps).length ≤ ps.length + 1
  | [] => by simp [pZ]
  | p :: r => by
    unfold pZ
    split
    · simp
    · split
      · simp
      · simp only [List.length_cons]; have := KI (t := t) (ps := r); omega

theorem KP {t : Int} : ∀ {ps : List Int}, (∀ x ∈ ps, x < t) → pZ t ps = ps ++ [t]
  | [], _ => rfl
  | p :: r, h => by
    have := h p (List.mem_cons_self ..)
    unfold pZ
    rw [if_neg (by omega), if_neg (by omega), KP (fun x hx => h x (List.mem_cons_of_mem _ hx))]; rfl

theorem OM {t : Int} : ∀ {ps : List Int} {last : Int}, Inc last ps → t ∈ ps → pZ t ps = ps
  | [], _, _, h => by simp at h
  | p :: r, last, hi, h => by
    unfold pZ
    split
    · rfl
    · rename_i hp
      rcases List.mem_cons.1 h with h | h
      · exact absurd h.symm hp
      · have := (hi.2.above t h).1
        rw [if_neg (by omega), OM hi.2 h]

theorem aAo {l out : List Int} {t a : Int} {put : Bool} {i : Nat} (ha : l[i]? = some a) (hl : l.length ≤ 1099511627776) (ho : out.length ≤ 2199023255552) :
    iW l t out put i = some (if a = t then .inr (.inr l) else if t < a ∧ put = false then .inl (out ++ [t] ++ [a], true, ((i + 1 : Nat) : Int)) else .inl (out ++ [a], put, ((i + 1 : Nat) : Int))) := by
  obtain ⟨d1, d2, d3, d4⟩ := idx ha (by omega)
  simp only [iW, vL, d1, cond_true, aT d2, d3, d4]
  by_cases h1 : a = t
  · simp [h1]
  · rw [decide_eq_false h1, cond_false, if_neg h1]
    by_cases h2 : t < a
    · cases put
      · simp only [h2, decide_true, Bool.not_false, Bool.and_self, cond_true, and_self, if_true]
        rw [aT (by simp only [List.length_cons, List.length_nil]; omega), aT (by simp only [List.length_append, List.length_cons, List.length_nil]; omega)]
      · simp only [h2, decide_true, Bool.not_true, Bool.and_false, cond_false, and_false, if_false, reduceCtorEq]
        rw [aT (by simp only [List.length_cons, List.length_nil]; omega)]
    · simp only [h2, decide_false, Bool.false_and, cond_false, false_and, if_false]
      rw [aT (by simp only [List.length_cons, List.length_nil]; omega)]

theorem aCM {l : List Int} {last t : Int} (hi : Inc last l) (hl : l.length ≤ 1099511627776) : tW l t = some (pZ t l) := by
  unfold tW zK
  rw [mV (l := l) (body := fun s : List Int × Bool × Int => iW l t s.1 s.2.1 s.2.2) (fun (s : List Int × Bool) i => (s.1, s.2, i))
    (fun s r => if s.2 then .inl (s.1 ++ r, true) else if t ∈ r then .inr l else if (∃ x ∈ r, t < x) then .inl (s.1 ++ pZ t r, true) else .inl (s.1 ++ r, false))
    (fun s r => (∃ m, Inc m r) ∧ (s.2 = true → ∀ x ∈ r, t < x) ∧ r.length ≤ 1099511627776 ∧ s.1.length + r.length ≤ 1099511627777 + (if s.2 then 1 else 0)) ([], false) ?_ ?_ ?_]
  · simp only [Bool.false_eq_true, if_false, List.nil_append, Option.bind_some]
    by_cases h1 : t ∈ l
    · simp [h1, OM hi h1]
    · simp only [h1, if_false]
      by_cases h2 : ∃ x ∈ l, t < x
      · simp only [h2, if_true]
        simp [sW, sY]
      · simp only [h2, if_false]
        have : ∀ x ∈ l, x < t := fun x hx => by
          have h3 : ¬ t < x := fun h => h2 ⟨x, hx, h⟩
          have h4 : x ≠ t := fun h => h1 (h ▸ hx)
          omega
        rw [KP this]
        simp only [Sum.elim_inl, sW, sY, Bool.not_false, cond_true]
        rw [aT (by simp only [List.length_cons, List.length_nil]; omega)]
  · rintro i a r ⟨out, put⟩ ha ⟨⟨m, hm⟩, h1, h2, h3⟩
    simp only [List.length_cons] at h2 h3
    have hb := aAo (t := t) (put := put) (out := out) ha hl (by split at h3 <;> omega)
    have hab : ∀ x ∈ r, a < x := fun x hx => (hm.2.above x hx).1
    cases put
    · by_cases e : a = t
      · right
        show iW l t out false i = _
        rw [hb]; simp [e]
      · left
        by_cases e2 : t < a
        · have hnt : t ∉ a :: r := fun h => by
            rcases List.mem_cons.1 h with h | h
            · exact e h.symm
            · have := hab t h; omega
          refine ⟨(out ++ [t] ++ [a], true), ?_, ⟨⟨a, hm.2⟩, fun _ x hx => by have := hab x hx; omega, by omega, by simp only [List.length_append, List.length_cons, List.length_nil, Bool.false_eq_true, if_false, if_true] at h3 ⊢; omega⟩, ?_⟩
          · show iW l t out false i = _
            rw [hb]; simp [e, e2]
          · have hex : ∃ x ∈ a :: r, t < x := ⟨a, List.mem_cons_self .., e2⟩
            simp only [if_true, Bool.false_eq_true, if_false, hnt, hex]
            simp [pZ, e, e2]
        · refine ⟨(out ++ [a], false), ?_, ⟨⟨a, hm.2⟩, fun h => absurd h (by simp), by omega, by simp only [List.length_append, List.length_cons, List.length_nil, Bool.false_eq_true, if_false] at h3 ⊢; omega⟩, ?_⟩
          · show iW l t out false i = _
            rw [hb]; simp [e, e2]
          · have i1 : (t ∈ a :: r) ↔ t ∈ r := by simp only [List.mem_cons]; constructor; (intro h; rcases h with h | h; exact absurd h.symm e; exact h); exact Or.inr
            have i2 : (∃ x ∈ a :: r, t < x) ↔ (∃ x ∈ r, t < x) := by
              constructor
              · rintro ⟨x, hx, hx'⟩
                rcases List.mem_cons.1 hx with rfl | hx
                · exact absurd hx' e2
                · exact ⟨x, hx, hx'⟩
              · rintro ⟨x, hx, hx'⟩; exact ⟨x, List.mem_cons_of_mem _ hx, hx'⟩
            simp only [Bool.false_eq_true, if_false, i1, i2]
            simp [pZ, e, e2]
    · left
      have ht := h1 rfl a (List.mem_cons_self ..)
      refine ⟨(out ++ [a], true), ?_, ⟨⟨a, hm.2⟩, fun _ x hx => h1 rfl x (List.mem_cons_of_mem _ hx), by omega, by simp only [List.length_append, List.length_cons, List.length_nil, if_true] at h3 ⊢; omega⟩, ?_⟩
      · show iW l t out true i = _
        have : a ≠ t := by omega
        rw [hb]; simp [this]
      · simp
  · rintro ⟨out, put⟩ _
    show iW l t out put (l.length : Nat) = _
    simp only [iW, cY, cond_false]
    cases put <;> simp
  · exact ⟨⟨last, hi⟩, fun h => absurd h (by simp), hl, by simp only [List.length_nil]; simp; omega⟩

def BW (ps : List Int) (f : List aD) : List Int := f.foldl (fun ps j => pZ j.At ps) ps

theorem MT {x : Int} : ∀ {f : List aD} {ps : List Int}, x ∈ BW ps f ↔ x ∈ ps ∨ ∃ j ∈ f, j.At = x
  | [], ps => by simp [BW]
  | k :: r, ps => by
    have := MT (x := x) (f := r) (ps := pZ k.At ps)
    unfold BW at this ⊢
    rw [List.foldl_cons, this, QM]
    constructor
    · rintro ((h | h) | ⟨j, h, h'⟩)
      · exact Or.inr ⟨k, List.mem_cons_self .., h.symm⟩
      · exact Or.inl h
      · exact Or.inr ⟨j, List.mem_cons_of_mem _ h, h'⟩
    · rintro (h | ⟨j, h, h'⟩)
      · exact Or.inl (Or.inr h)
      · rcases List.mem_cons.1 h with rfl | h
        · exact Or.inl (Or.inl h'.symm)
        · exact Or.inr ⟨j, h, h'⟩

theorem TP : ∀ {f : List aD} {ps : List Int} {last : Int}, Inc last ps → (∀ j ∈ f, last < j.At ∧ j.At < 1125899906842624) → Inc last (BW ps f)
  | [], _, _, h, _ => h
  | k :: r, ps, last, h, hf => by
    have hk := hf k (List.mem_cons_self ..)
    exact TP (f := r) (KU h hk.1 hk.2) fun j hj => hf j (List.mem_cons_of_mem _ hj)

theorem VG : ∀ {f : List aD} {ps : List Int}, (BW ps f).length ≤ ps.length + f.length
  | [], ps => by simp [BW]
  | k :: r, ps => by
    have := VG (f := r) (ps := pZ k.At ps)
    have h2 := KI (t := k.At) (ps := ps)
    unfold BW at this ⊢
    rw [List.foldl_cons]; simp only [List.length_cons]; omega

theorem YW {ps : List Int} {F : Int → Int} (hl : ps.length ≤ 1099511627776) (hb : ∀ p ∈ ps, -2305843009213693952 ≤ F p ∧ F p ≤ 2305843009213693952) :
    xL ps (ps.map F) = some (told (uV 0 (ps.map fun p => (p, F p)))) := by
  unfold xL zL
  rw [mV (l := ps) (body := fun s : List aD × Int × Int => oL ps (ps.map F) s.1 s.2.1 s.2.2) (fun (s : List aD × Int) i => (s.1, s.2, i))
    (fun s r => s.1 ++ uV s.2 (r.map fun p => (p, F p))) (fun s r => (∀ p ∈ r, -2305843009213693952 ≤ F p ∧ F p ≤ 2305843009213693952) ∧ (-2305843009213693952 ≤ s.2 ∧ s.2 ≤ 2305843009213693952) ∧ s.1.length + r.length ≤ 1099511627776) ([], 0) ?_ ?_ ?_]
  · simp only [List.nil_append, Option.bind_some, vV, QJ, told]
    cases h : qU (uV 0 (ps.map fun p => (p, F p))) <;> simp
  · rintro i a r ⟨out, was⟩ ha ⟨h1, h2, h3⟩
    simp only [List.length_cons] at h2 h3
    obtain ⟨d1, d2, d3, d4⟩ := idx ha (by omega)
    have ha' : (ps.map F)[i]? = some (F a) := by rw [List.getElem?_map, ha]; rfl
    obtain ⟨_, e2, e3, _⟩ := idx ha' (by rw [List.length_map]; omega)
    have hF := h1 a (List.mem_cons_self ..)
    left
    refine ⟨(out ++ emit a (F a) was, F a), ?_, ⟨fun p hp => h1 p (List.mem_cons_of_mem _ hp), hF, ?_⟩, ?_⟩
    · show oL ps (ps.map F) out was i = _
      have hw : IntKind.i64.wrap (F a - was) = F a - was := fA (by omega) (by omega)
      simp only [oL, vE, d1, cond_true, aT d2, aT e2, e3, d3, d4, hw]
      unfold emit
      by_cases h : F a = was
      · simp [h]
      · simp only [h, decide_false, Bool.not_false, cond_true, if_false]
        rw [aT (by simp only [List.length_cons, List.length_nil]; omega)]
    · have : (emit a (F a) was).length ≤ 1 := by unfold emit; split <;> simp
      simp only [List.length_append]; omega
    · simp [uV]
  · rintro ⟨out, was⟩ _
    show oL ps (ps.map F) out was (ps.length : Nat) = _
    simp only [oL, cY, cond_false]
    simp [uV]
  · exact ⟨hb, ⟨by omega, by omega⟩, by simp only [List.length_nil]; omega⟩

theorem XH {ps : List Int} {F : Int → Int} {body : List Int × Int → Option ((List Int × Int) ⊕ List Int)} (hb : ∀ (i : Nat) a vs, ps[i]? = some a → a ∈ ps → vs.length ≤ 1099511627776 → body (vs, (i : Int)) = some (.inl (vs ++ [F a], ((i + 1 : Nat) : Int))))
    (he : ∀ vs, body (vs, (ps.length : Nat)) = some (.inr vs)) (hl : ps.length ≤ 1099511627776) : lp body ([], 0) = some (ps.map F) := by
  rw [mV (l := ps) (fun vs i => (vs, i)) (fun vs r => vs ++ r.map F) (fun vs r => vs.length + r.length ≤ 1099511627776) [] ?_ ?_ (by simpa using hl)]
  · simp
  · rintro i a r vs ha h1
    simp only [List.length_cons] at h1
    left
    refine ⟨vs ++ [F a], hb i a vs ha (List.mem_of_getElem? ha) (by omega), by simp only [List.length_append, List.length_cons, List.length_nil]; omega, by simp⟩
  · intro vs _; simpa using he vs

end Go.Abs
namespace Go.Abs
open Go
def parts (v : Int) : List aD → List Int
  | [] => []
  | j :: r => (v + j.Net) :: parts (v + j.Net) r

theorem KC {s t : Int} (hst : s ≤ t) : ∀ {f : List aD}, (∀ j ∈ f, ¬ (s < j.At ∧ j.At ≤ t)) → val f s = val f t
  | [], _ => rfl
  | j :: r, h => by
    have hj := h j (List.mem_cons_self ..)
    rw [eJ, eJ, KC hst (fun k hk => h k (List.mem_cons_of_mem _ hk))]
    by_cases e : j.At ≤ s
    · rw [if_pos e, if_pos (by omega)]
    · rw [if_neg e, if_neg (by omega)]

theorem aDb : qU [] = true := by decide

end Go.Abs
namespace Go.Abs
open Go
theorem w1 : IntKind.i64.wrap (0 + 1) = 1 := by rw [fA] <;> omega

theorem w2 : IntKind.i64.wrap (1 + 1) = 2 := by rw [fA] <;> omega

theorem w3 : IntKind.i64.wrap (1 - 1) = 0 := by rw [fA] <;> omega

theorem v0 : IntKind.i64.wrap 0 = 0 := by rw [fA] <;> omega

theorem v1 : IntKind.i64.wrap 1 = 1 := by rw [fA] <;> omega

theorem v2 : IntKind.i64.wrap 2 = 2 := by rw [fA] <;> omega

theorem v3 : IntKind.i64.wrap (-1) = -1 := by rw [fA] <;> omega

end Go.Abs
namespace Go.Abs
open Go
theorem aBV (f : List aD) : (told f).1.length ≤ 1024 := by
  unfold told
  cases h : qU f
  · simp
  · simpa using (EA.1 h).1

end Go.Abs
namespace Go.Abs
theorem aB0 : @eB = @pG aD _ := rfl

theorem aA0 : @eH = @eO aD _ := rfl

theorem YQ (cmp) : ∀ k, @iF cmp k = @eR aD _ cmp k
  | 0 => rfl
  | k + 1 => by
    show eH cmp _ = eO cmp _
    rw [YQ cmp k, aA0]

theorem aBD : @fH = @rF aD _ := by
  funext d a m b cmp
  unfold fH rF
  simp only [YQ]

theorem WM : @fY = @AI aD _ := by
  funext d n cmp
  unfold fY AI jX CQ
  unfold jR nZ fN CF
  unfold jI CJ jK kX
  unfold jD yI jG oD
  unfold fQ yK
  rw [aBD, aB0]
  rfl

end Go.Abs
namespace Go.Abs
open Go
variable {α : Type} [Inhabited α]
noncomputable def rP (f1 : α → Option Bool) (s0 : (List α)) (t7 : Int) (t8 : Int) : Option ((Int) ⊕ (Unit ⊕ Int)) :=
  cond (decide (t8 < t7))
  (bI (0 ≤ t8 ∧ t8 < ((List.length s0 : Nat) : Int)) <|
  (f1 (List.getD s0 (Int.toNat t8) default)).bind fun x2 =>
  cond x2
  (some (.inr (.inr t8)))
  (some (.inl (IntKind.i64.wrap (t8 + (1 : Int))))))
  (some (.inr (.inl ())))

theorem IC {l : List α} {f : α → Option Bool} {g : α → Bool} (hl : l.length ≤ 1099511627776) (hf : ∀ x ∈ l, f x = some (g x)) : ∀ (r : List α) (k : Nat), l.drop k = r → k ≤ l.length →
    ∃ x, lp (fun s => rP f l (l.length : Nat) s) (k : Int) = some x ∧ ((x = .inl () ∧ r.any g = false) ∨ (∃ i : Nat, x = .inr (i : Int) ∧ k ≤ i ∧ i < l.length ∧ r.any g = true ∧ g (l.getD i default) = true ∧ ∀ j, k ≤ j → j < i → g (l.getD j default) = false))
  | [], k, hd, hk => by
    have : k = l.length := by
      have := congrArg List.length hd
      simp only [List.length_drop, List.length_nil] at this; omega
    subst this
    refine ⟨.inl (), cM ?_, Or.inl ⟨rfl, rfl⟩⟩
    show rP f l _ _ = _
    simp only [rP, cY, cond_false]
  | a :: r, k, hd, hk => by
    obtain ⟨h1, h2⟩ := drop_cons hd
    have hlt : k < l.length := (List.getElem?_eq_some_iff.1 h1).1
    obtain ⟨d1, d2, d3, d4⟩ := idx h1 (by omega)
    have hga : l.getD k default = a := by rw [Int.toNat_natCast] at d3; exact d3
    have hb : (fun s => rP f l (l.length : Nat) s) (k : Int) = some (if g a then .inr (.inr (k : Int)) else .inl ((k + 1 : Nat) : Int)) := by
      show rP f l _ _ = _
      simp only [rP, d1, cond_true, aT d2, d3, d4, hf a (List.mem_of_getElem? h1), Option.bind_some]
      cases g a <;> simp
    cases hg : g a
    · rw [hg] at hb
      obtain ⟨x, e, hx⟩ := IC hl hf r (k + 1) h2 (by omega)
      refine ⟨x, by rw [dS hb]; exact e, ?_⟩
      rcases hx with ⟨rfl, h⟩ | ⟨i, rfl, h3, h4, h5, h6, h7⟩
      · exact Or.inl ⟨rfl, by simp [hg, h]⟩
      · refine Or.inr ⟨i, rfl, by omega, h4, by simp [h5], h6, fun j hj hj' => ?_⟩
        by_cases e : j = k
        · subst e; rw [hga, hg]
        · exact h7 j (by omega) hj'
    · rw [hg] at hb
      exact ⟨.inr (k : Int), cM hb, Or.inr ⟨k, rfl, Nat.le_refl _, hlt, by simp [hg], by rw [hga, hg], fun j h h' => by omega⟩⟩

end Go.Abs
namespace Go.Abs
open Go
theorem JX {l : List aD} {f : aD → Option Bool} {g : aD → Bool} (hl : l.length ≤ 1099511627776) (hf : ∀ x ∈ l, f x = some (g x)) : dG l f = some (l.any g) := by
  unfold dG gN gF
  obtain ⟨x, e, hx⟩ := IC hl hf l 0 rfl (Nat.zero_le _)
  have e' : lp (fun s => gH f l (l.length : Nat) s) 0 = some x := e
  rw [e']
  rcases hx with ⟨rfl, h⟩ | ⟨i, rfl, _, _, h, _⟩
  · simp [eE, h]
  · simp [h]

def sD (j : aD) : Bool := !CD j.Net

def uM (j : aD) : Bool := decide (j.At < -1) || decide (1125899906842624 < j.At)

def CT (l : List aD) : List aD := uV 0 ((BW [] (l.filter fun j => decide (j.At < 1125899906842624))).map fun p => (p, val l p))

def lG (l : List aD) : List aD × Int := if l.any sD then ([], 2) else if l.any uM then ([], 13) else told (CT l)

def DJ (p n : Int) : List aD := if n ≠ 0 ∧ p < 1125899906842624 then [⟨p, n⟩] else []

def yE (p n : Int) : List aD → List aD
  | [] => DJ p n
  | j :: r => if j.At = p then yE p (n + j.Net) r else DJ p n ++ yE j.At j.Net r

def grp : List aD → List aD
  | [] => []
  | j :: r => yE j.At j.Net r

abbrev UJ (a b : aD) : Prop := a.At ≤ b.At

theorem NF {t : Int} (ht : t < 1125899906842624) : ∀ {r : List aD} {p n : Int}, val (yE p n r) t = (if p ≤ t then n else 0) + val r t
  | [], p, n => by
    unfold yE DJ
    split
    · rw [eJ, AG]
    · rw [AG]; split <;> omega
  | j :: r, p, n => by
    unfold yE
    split
    · rename_i h
      rw [NF ht, eJ, h]; split <;> omega
    · rw [PC, NF ht, eJ]
      have : val (DJ p n) t = if p ≤ t then n else 0 := by
        unfold DJ
        split
        · rw [eJ, AG]; simp
        · rw [AG]; split <;> omega
      rw [this]

theorem aCQ {t : Int} (ht : t < 1125899906842624) : ∀ {r : List aD}, val (grp r) t = val r t
  | [] => rfl
  | j :: r => by unfold grp; rw [NF ht, eJ]

theorem PV : ∀ {r : List aD} {p n last : Int}, last < p → (∀ j ∈ r, p ≤ j.At) → Srt UJ r → Up last (yE p n r)
  | [], p, n, last, h, _, _ => by
    unfold yE DJ
    split
    · rename_i h'; exact ⟨⟨h, h'.2, h'.1⟩, trivial⟩
    · trivial
  | j :: r, p, n, last, h, hp, hs => by
    have hj := hp j (by simp)
    have hs' := List.pairwise_cons.1 hs
    unfold yE
    split
    · exact PV h (fun k hk => hp k (by simp [hk])) hs'.2
    · have ih : Up p (yE j.At j.Net r) := PV (by omega) (fun k hk => hs'.1 k hk) hs'.2
      unfold DJ
      split
      · rename_i h'; exact ⟨⟨h, h'.2, h'.1⟩, ih⟩
      · exact ih.weaken (by omega)

theorem aDA {r : List aD} (h : ∀ j ∈ r, -2 < j.At) (hs : Srt UJ r) : Up (-2) (grp r) := by
  cases r with
  | nil => trivial
  | cons j r =>
    have hs' := List.pairwise_cons.1 hs
    exact PV (h j (by simp)) (fun k hk => hs'.1 k hk) hs'.2

theorem TW {l out : List aD} (hl : l.length ≤ 1099511627776) (hb : ∀ j ∈ l, j.Net ≤ 1048576 ∧ -1048576 ≤ j.Net) : ∀ (r : List aD) (k : Nat) (p n : Int), l.drop k = r → k ≤ l.length → n ≤ 1048576 * k → -(1048576 * k) ≤ n →
    ∃ n' k', k ≤ k' ∧ k' ≤ l.length ∧ yE p n r = DJ p n' ++ grp (l.drop k') ∧ lp (fun s : List aD × List aD × Int × aD => kW s.1 s.2.1 s.2.2.1 s.2.2.2) (l, out, (k : Int), ⟨p, n⟩) = some (l, out, ((k' : Nat) : Int), ⟨p, n'⟩) ∧ (∀ j r', r = j :: r' → j.At = p → k < k')
  | [], k, p, n, hd, hk, _, _ => by
    have : k = l.length := by
      have := congrArg List.length hd
      simp only [List.length_drop, List.length_nil] at this; omega
    subst this
    refine ⟨n, l.length, Nat.le_refl _, Nat.le_refl _, by simp [yE, grp], cM ?_, fun j r' h => by cases h⟩
    show kW _ _ _ _ = _
    simp only [kW, cY, Bool.false_and, cond_false]
    exact aT (fun h => by cases h)
  | a :: r, k, p, n, hd, hk, h1, h2 => by
    obtain ⟨e1, e2⟩ := drop_cons hd
    have hlt : k < l.length := (List.getElem?_eq_some_iff.1 e1).1
    obtain ⟨d1, d2, d3, d4⟩ := idx e1 (by omega)
    have ha := hb a (List.mem_of_getElem? e1)
    by_cases h : a.At = p
    · have hw : IntKind.i64.wrap (n + a.Net) = n + a.Net := fA (by omega) (by omega)
      obtain ⟨n', k', k1, k2, k3, k4, _⟩ := TW hl hb r (k + 1) p (n + a.Net) e2 (by omega) (by omega) (by omega) (out := out)
      refine ⟨n', k', by omega, k2, by simp [yE, h, k3], ?_, fun _ _ _ _ => by omega⟩
      have hb : (fun s : List aD × List aD × Int × aD => kW s.1 s.2.1 s.2.2.1 s.2.2.2) (l, out, (k : Int), ⟨p, n⟩) = some (.inl (l, out, ((k + 1 : Nat) : Int), ⟨p, n + a.Net⟩)) := by
        show kW _ _ _ _ = _
        simp only [kW, d1, Bool.true_and, d3, d4, h, decide_true, cond_true, hw]
        rw [aT (fun _ => d2), aT d2]
      rw [dS hb, k4]
    · refine ⟨n, k, Nat.le_refl _, hk, ?_, cM ?_, fun j r' he hp => ?_⟩
      · rw [hd]; simp [yE, h, grp]
      · show kW _ _ _ _ = _
        simp only [kW, d1, Bool.true_and, d3, h, decide_false, cond_false]
        exact aT (fun _ => d2)
      · cases he; exact absurd hp h

theorem aCo {l : List aD} (hl : l.length ≤ 1099511627776) (hb : ∀ j ∈ l, j.Net ≤ 1048576 ∧ -1048576 ≤ j.Net) : ∀ (m k : Nat) (out : List aD), l.length - k ≤ m → k ≤ l.length → out.length ≤ k →
    lp (fun s : List aD × List aD × Int => nA s.1 s.2.1 s.2.2) (l, out, (k : Int)) = some (out ++ grp (l.drop k)) := by
  have stop : ∀ out, lp (fun s : List aD × List aD × Int => nA s.1 s.2.1 s.2.2) (l, out, ((l.length : Nat) : Int)) = some (out ++ grp (l.drop l.length)) := by
    intro out
    refine cM ?_
    show nA _ _ _ = _
    simp only [nA, cY, cond_false]
    simp [grp]
  intro m
  induction m with
  | zero =>
    intro k out hm hk _
    have : k = l.length := by omega
    subst this; exact stop out
  | succ m ih =>
    intro k out hm hk ho
    by_cases he : k = l.length
    · subst he; exact stop out
    · have hlt : k < l.length := by omega
      have hd : l.drop k = l[k] :: l.drop (k + 1) := List.drop_eq_getElem_cons hlt
      obtain ⟨d1, d2, d3, d4⟩ := idx (List.getElem?_eq_getElem hlt) (by omega)
      obtain ⟨n', k', k1, k2, k3, k4, k5⟩ := TW hl hb (l.drop k) k l[k].At 0 rfl hk (by omega) (by omega) (out := out)
      have hk' := k5 _ _ hd rfl
      have hbod : (fun s : List aD × List aD × Int => nA s.1 s.2.1 s.2.2) (l, out, (k : Int)) = some (.inl (l, out ++ DJ l[k].At n', ((k' : Nat) : Int))) := by
        show nA _ _ _ = _
        simp only [nA, d1, cond_true, aT d2, d3, BO, k4, Option.bind_some, xC]
        unfold DJ
        by_cases c : n' ≠ 0 ∧ l[k].At < 1125899906842624
        · have hc : (!decide (n' = 0) && decide (l[k].At < 1125899906842624)) = true := by simp [c]
          rw [hc, cond_true, if_pos c, aT (by simp only [List.length_cons, List.length_nil]; omega)]
        · have hc : (!decide (n' = 0) && decide (l[k].At < 1125899906842624)) = false := by
            rw [Bool.eq_false_iff]; intro h; apply c; simpa using h
          rw [hc, cond_false, if_neg c]; simp
      have hfl : (DJ l[k].At n').length ≤ 1 := by unfold DJ; split <;> simp
      rw [dS hbod, ih k' _ (by omega) k2 (by simp only [List.length_append]; omega)]
      have hg : grp (l.drop k) = yE l[k].At 0 (l.drop k) := by rw [hd]; simp [grp, yE]
      rw [hg, k3]; simp

theorem aCD (a b : aD) : oP a b = some (if a.At < b.At then -1 else if b.At < a.At then 1 else 0) := by
  unfold oP kL qP
  by_cases h1 : a.At < b.At
  · simp [h1]
  · by_cases h2 : b.At < a.At <;> simp [h1, h2]

theorem aEC : Cmp (fun _ => True) UJ (fun y0 y1 => oP y0 y1) where
  ans x y _ _ := ⟨_, aCD x y, by unfold UJ; split <;> (try split) <;> omega⟩
  trans x y z _ _ _ h1 h2 := Int.le_trans h1 h2
  total x y _ _ := Int.le_total x.At y.At

theorem aD9 {l : List aD} (hl : l.length ≤ 1099511627776) : ∃ r, r.Perm l ∧ Srt UJ r ∧ dO l (fun y0 y1 => oP y0 y1) = some r := by
  obtain ⟨r, r1, r2, r3⟩ := RJ aEC (d := l) (fun _ _ => trivial) hl
  refine ⟨r, r1, r2, ?_⟩
  unfold dO
  rw [WM, r3]; rfl

theorem VR {f g : List aD} (h : f.Perm g) (t : Int) : val f t = val g t := by
  induction h with
  | nil => rfl
  | cons x _ ih => rw [eJ, eJ, ih]
  | swap x y l => rw [eJ, eJ, eJ, eJ]; omega
  | trans _ _ ih1 ih2 => rw [ih1, ih2]

theorem HG {l : List aD} (h : l.any sD = false) : ∀ j ∈ l, j.Net ≤ 1048576 ∧ -1048576 ≤ j.Net := by
  intro j hj
  have := List.any_eq_false.1 h j hj
  simp [sD, CD] at this
  omega

theorem IF {l : List aD} (h : l.any uM = false) : ∀ j ∈ l, -2 < j.At ∧ j.At ≤ 1125899906842624 := by
  intro j hj
  have := List.any_eq_false.1 h j hj
  simp [uM] at this
  omega

theorem KA {l : List aD} (ht : ∀ j ∈ l, -2 < j.At) : Inc (-2) (BW [] (l.filter fun j => decide (j.At < 1125899906842624))) :=
  TP (ps := []) (show Inc (-2) [] from trivial) fun j hj => by
    obtain ⟨h1, h2⟩ := List.mem_filter.1 hj
    exact ⟨ht j h1, by simpa using h2⟩

theorem VU {l h : List aD} (ht : ∀ j ∈ l, -2 < j.At) (hh : Up (-2) h) (hv : ∀ t, -2 < t → t < 1125899906842624 → val h t = val l t) : CT l = h := by
  refine aCa (F := val l) (JP fun j hj => ht j hj) (KA ht) ?_ hh hv
  intro s t _ hst h2 hn
  exact KC hst fun j hj hc => hn j.At (MT.2 (Or.inr ⟨j, List.mem_filter.2 ⟨hj, by simp; omega⟩, rfl⟩)) hc

theorem norm_eq {l : List aD} (hl : l.length ≤ 1099511627776) : yJ l = some (lG l) := by
  unfold yJ lG
  rw [JX (g := sD) hl (fun x _ => by simp [vG, YC, sD])]
  simp only [Option.bind_some]
  cases h1 : l.any sD
  · rw [JX (f := fun y0 => vM y0) (g := uM) hl (fun x _ => rfl)]
    simp only [cond_false, Option.bind_some, Bool.false_eq_true, if_false]
    cases h2 : l.any uM
    · simp only [cond_false, Bool.false_eq_true, if_false]
      have hc : fO l = some l := by unfold fO; exact aT ⟨by omega, by omega⟩
      obtain ⟨r, r1, r2, r3⟩ := aD9 hl
      rw [hc]
      simp only [Option.bind_some]
      rw [r3]
      simp only [Option.bind_some, BB]
      have hlr : r.length ≤ 1099511627776 := by rw [r1.length_eq]; exact hl
      have := aCo hlr (fun j hj => HG h1 j (r1.mem_iff.1 hj)) r.length 0 [] (by omega) (by omega) (by simp)
      simp only [Int.natCast_zero, List.drop_zero, List.nil_append] at this
      rw [this]
      simp only [Option.bind_some, xO, aBR]
      rw [VU (fun j hj => (IF h2 j hj).1) (aDA (fun j hj => (IF h2 j (r1.mem_iff.1 hj)).1) r2) (fun t _ ht => by rw [aCQ ht, VR r1])]
    · simp
  · simp

end Go.Abs
