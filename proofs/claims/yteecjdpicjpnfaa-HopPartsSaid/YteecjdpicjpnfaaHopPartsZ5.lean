/- What the law HopParts stands on: the framework, the given functions as plain functions, their walks, and the plain laws; part 5. -/
import Derived.Test.YteecjdpicjpnfaaHopPartsZ4
set_option linter.unusedSimpArgs false
set_option linter.unusedVariables false
namespace Go.Abs
open Go Go.RowKit Go.Proofs
theorem DE (l0 : (List aR)) (r : (List (List aC))) (h0 : pS l0 = some r) : dJ Try.prog 37 [(eL aQ l0)] (eL (eL aB) r) := by
  intro H0
  refine dH Try.func37 ?_
  have hO := aI.start H0
  unfold pS at h0
  refine aX aD 1 [] [] ?_
  refine aL ?_
  refine aW aD 2 ?_
  refine mR (xs := []) (k := 1) (by kernel_rfl) (by kernel_rfl) ?_
  refine bG ?_
  refine bZ [] [(3, (.sl true 0 (fun _ => .bad)))] ?_
  refine dP (fun T H => ∃ bP : List (List aC), ∃ lo1 : Nat, Has T [(3, (.msl 1 lo1 0 (List.length bP)))] ∧ aI ⟨H0, [], []⟩ H [(lo1, 1, List.map (eL aB) bP)] ∧ xU bP = some r) ?_ ?_
  · clear hO h0
    rintro T H ⟨bP, lo1, hT, hO, h0⟩
    refine bD hT ?_
    clear hT
    unfold xU at h0
    refine bV aD 2 [(2, (.msl 1 lo1 0 (List.length bP)))] ?_
    refine bL ?_
    refine eP [(2, (.msl 1 lo1 0 (List.length bP)))] ?_
    refine sG (en := (eL aB)) bP 0 0 2 1 lo1 (List.length bP) hO (by kernel_rfl) (by kernel_rfl) (by kernel_rfl) (L' := []) (by kernel_rfl) ?_
    intro H2 hO
    obtain rfl := oI h0
    exact aG (Q_r hO)
  refine aX aD 1 [] [(4, (eI (0 : Int)))] ?_
  refine cA 0 ?_
  refine eG [(0, (eL aQ l0)), (3, (.sl true 0 (fun _ => .bad))), (4, (eI (0 : Int)))] ?_
  refine CU (el := (fun _ => .bad)) 1 3 1 hO (by kernel_rfl) ?_
  intro lo31 H32 hO
  refine dY (fun T H => ∃ bP : List (List aC), ∃ i4 : Int, ∃ lo4 : Nat, Has T [(0, (eL aQ l0)), (3, (.msl 1 lo4 0 (List.length bP))), (4, (eI i4))] ∧ aI ⟨H0, [], []⟩ H [(lo4, 1, List.map (eL aB) bP)] ∧ yA l0 bP i4 = some r) ?_ ⟨([] : List (List aC)), (0 : Int), lo31, .eq (by kernel_rfl), hO, h0⟩
  clear hO h0
  rintro T H ⟨bP, i4, lo4, hT, hO, h0⟩
  refine bD hT ?_
  clear hT
  unfold yA at h0
  obtain ⟨rr0, hl0, h0⟩ := aZ h0
  refine cR (by kernel_rfl) (fun (s : List (List aC) × Int) T H => ∃ lo4 : Nat, Has T [(0, (eL aQ l0)), (3, (.msl 1 lo4 0 (List.length s.1))), (4, (eI s.2))] ∧ aI ⟨H0, [], []⟩ H [(lo4, 1, List.map (eL aB) s.1)]) hl0 ⟨lo4, .eq (by kernel_rfl), hO⟩ ?_
  clear hO
  rintro k0 s out1 T H ⟨lo4, hT, hO⟩ h1 ho0
  obtain ⟨bP, i4⟩ := s
  replace h1 : nF l0 bP i4 = some out1 := h1
  try dsimp only at hT
  refine bD hT ?_
  clear hT
  unfold nF at h1
  refine aL ?_
  refine aX aD 4 [] [(11, (aE (decide (i4 < (lN l0)))))] ?_
  refine bJ h1 (fun h1 => ?_) (fun h1 => ?_)
  · refine bK ?_
    refine bH [(0, (eL aQ l0)), (3, (.msl 1 lo4 0 (List.length bP))), (4, (eI i4))] ?_
    refine dP (fun T H => ∃ bP : List (List aC), ∃ lo6 : Nat, Has T [(0, (eL aQ l0)), (3, (.msl 1 lo6 0 (List.length bP))), (4, (eI i4))] ∧ aI ⟨H0, [], []⟩ H [(lo6, 1, List.map (eL aB) bP)] ∧ tM l0 bP i4 = some out1) ?_ ?_
    · clear hO h1
      rintro T H ⟨bP, lo6, hT, hO, h1⟩
      refine bD hT ?_
      clear hT
      unfold tM at h1
      refine aW aD 3 ?_
      refine bG ?_
      exact aG (aF (⟨rfl, _, (oI h1).symm, _, .eq (by kernel_rfl), hO⟩))
    refine cA 1 ?_
    refine aX aD 1 [] [(5, (eI (0 : Int)))] ?_
    refine dP (fun T H => ∃ bP : List (List aC), ∃ at5 : Int, ∃ lo7 : Nat, Has T [(0, (eL aQ l0)), (3, (.msl 1 lo7 0 (List.length bP))), (4, (eI i4)), (5, (eI at5))] ∧ aI ⟨H0, [], []⟩ H [(lo7, 1, List.map (eL aB) bP)] ∧ tR l0 bP i4 at5 = some out1) ?_ ?_
    · clear hO h1
      rintro T H ⟨bP, at5, lo7, hT, hO, h1⟩
      refine bD hT ?_
      clear hT
      unfold tR at h1
      refine aL ?_
      refine aL ?_
      obtain ⟨c8, h1⟩ := bA h1
      obtain ⟨c9, h1⟩ := bA h1
      obtain ⟨x10, hx11, h1⟩ := aZ h1
      refine eS (eU [46]) aD 16 ?_
      refine mB (K := fun T H => Has (lift T) [(0, (eL aQ l0)), (3, (.msl 1 lo7 0 (List.length bP))), (4, (eI i4)), (5, (eI at5)), (48, (aE ((decide (at5 < (lN bP))) && x10)))] ∧ aI ⟨H0, [], []⟩ H [(lo7, 1, List.map (eL aB) bP)]) ?_ ?_
      · refine jZ 5 ?_
        refine kB (t := 37) (e := decide (at5 < (lN bP))) (by kernel_rfl) (fun hg12 => ?_) (fun hg12 => ?_)
        · refine cI 8 [0 ≤ at5 ∧ at5 < (lN bP)] ⟨(c8 hg12), trivial⟩ ?_
          refine jG 0 lo7 1 (0 + Int.toNat at5) (eL aB (gD bP at5)) (eL aB (gD bP at5)) (List.map (eL aB) bP) (by kernel_rfl) (by kernel_rfl) (by kernel_rfl) hO (by kernel_rfl) (cF (c8 hg12)) ?_
          refine cI 14 [0 ≤ i4 ∧ i4 < (lN l0)] ⟨(c9 hg12), trivial⟩ ?_
          refine lZ 46 [(eL aB (gD bP at5)), (eL aB ((gD l0 i4).Row))] (aE x10) (by kernel_rfl) (by kernel_rfl) (CE (gD bP at5) ((gD l0 i4).Row) _ (gV hx11 hg12)) hO ?_
          intro H hO
          refine gK ?_
          exact ⟨⟨[(0, (eL aQ l0)), (3, (.msl 1 lo7 0 (List.length bP))), (4, (eI i4)), (5, (eI at5)), (48, (aE x10))], by kernel_rfl, rfl, ⟨aN.refl _, aN.refl _, aN.refl _, aN.refl _, aN.eq (congrArg aE (gY hg12 rfl).symm), trivial⟩⟩, hO⟩
        refine gK ?_
        exact ⟨⟨[(0, (eL aQ l0)), (3, (.msl 1 lo7 0 (List.length bP))), (4, (eI i4)), (5, (eI at5)), (48, (aE false))], by kernel_rfl, rfl, ⟨aN.refl _, aN.refl _, aN.refl _, aN.refl _, aN.eq (congrArg aE (gY hg12 rfl).symm), trivial⟩⟩, hO⟩
      · rintro T H ⟨hT, hO⟩
        refine dS hT ?_
        clear hT
        refine aG (aF ?_)
        refine bJ h1 (fun h1 => ?_) (fun h1 => ?_)
        · refine eR 1 ?_
          exact aG (aV (bS (aF (⟨rfl, _, _, .eq (by kernel_rfl), hO, h1⟩))))
        refine bK ?_
        refine bH [(0, (eL aQ l0)), (3, (.msl 1 lo7 0 (List.length bP))), (4, (eI i4)), (5, (eI at5))] ?_
        refine aL ?_
        refine aW aD 6 ?_
        refine mR (xs := []) (k := 1) (by kernel_rfl) (by kernel_rfl) ?_
        obtain ⟨c14, h1⟩ := bA h1
        refine pZ 4 [0 ≤ at5 ∧ at5 ≤ (lN bP)] ⟨c14, trivial⟩ ?_
        obtain ⟨c16, h1⟩ := bA h1
        refine aDg (e := (eL aB)) (List.take (Int.toNat at5) bP) (fun _ => .bad) 1 24 (.msl 1 lo7 0 (Int.toNat at5)) (fun lo15 => [(lo7, 1, List.map (eL aB) bP), (lo15, 1, List.map (eL aB) (List.take (Int.toNat at5) bP))]) (by kernel_rfl) (by kernel_rfl) hO (UI hO 0 (by kernel_rfl) (Int.toNat_le.2 (And.right c14))) c16 (fun _ => by kernel_rfl) ?_
        intro lo15 H hO
        refine bG ?_
        refine bZ [] [(6, (.msl 1 lo15 0 (List.length (List.take (Int.toNat at5) bP))))] ?_
        refine aL ?_
        refine aW aD 9 ?_
        obtain ⟨c17, h1⟩ := bA h1
        refine pZ 6 [0 ≤ i4 ∧ i4 < (lN l0)] ⟨c17, trivial⟩ ?_
        refine mR (xs := [(eL aB ((gD l0 i4).Row))]) (k := 1) (by kernel_rfl) (by kernel_rfl) ?_
        obtain ⟨c19, h1⟩ := bA h1
        refine pM (e := (eL aB)) (List.take (Int.toNat at5) bP) ([(gD l0 i4).Row]) 1 lo15 1 24 (eK [(eL aB ((gD l0 i4).Row))]) (fun lo18 => [(lo7, 1, List.map (eL aB) bP), (lo18, 1, List.map (eL aB) ((List.take (Int.toNat at5) bP) ++ ([(gD l0 i4).Row])))]) (by kernel_rfl) (by kernel_rfl) hO (by kernel_rfl) (by kernel_rfl) c19 (fun _ => by kernel_rfl) ?_
        intro lo18 H hO
        refine bG ?_
        refine bZ [6] [(6, (.msl 1 lo18 0 (List.length ((List.take (Int.toNat at5) bP) ++ ([(gD l0 i4).Row])))))] ?_
        refine aW aD 6 ?_
        obtain ⟨c20, h1⟩ := bA h1
        refine pZ 4 [0 ≤ at5 ∧ at5 ≤ (lN bP)] ⟨c20, trivial⟩ ?_
        obtain ⟨c22, h1⟩ := bA h1
        refine pM (e := (eL aB)) ((List.take (Int.toNat at5) bP) ++ ([(gD l0 i4).Row])) (List.drop (Int.toNat at5) bP) 1 lo18 1 24 (.msl 1 lo7 (0 + Int.toNat at5) (List.length bP - Int.toNat at5)) (fun lo21 => [(lo7, 1, List.map (eL aB) bP), (lo21, 1, List.map (eL aB) (((List.take (Int.toNat at5) bP) ++ ([(gD l0 i4).Row])) ++ (List.drop (Int.toNat at5) bP)))]) (by kernel_rfl) (by kernel_rfl) hO (by kernel_rfl) (TB hO 0 (by kernel_rfl) rfl (Int.toNat_le.2 (And.right c20))) c22 (fun _ => by kernel_rfl) ?_
        intro lo21 H hO
        refine bG ?_
        replace hO := hO.pick (L' := [(lo21, 1, List.map (eL aB) (((List.take (Int.toNat at5) bP) ++ ([(gD l0 i4).Row])) ++ (List.drop (Int.toNat at5) bP)))]) [1] (by decide) (by kernel_rfl)
        exact aG (aY (aF (⟨rfl, _, _, .eq (by kernel_rfl), hO, h1⟩)))
    refine cA 2 ?_
    refine eG [(0, (eL aQ l0)), (3, (.msl 1 lo4 0 (List.length bP))), (4, (eI i4)), (5, (eI (0 : Int)))] ?_
    refine dY (fun T H => ∃ bP : List (List aC), ∃ at5 : Int, ∃ lo24 : Nat, Has T [(0, (eL aQ l0)), (3, (.msl 1 lo24 0 (List.length bP))), (4, (eI i4)), (5, (eI at5))] ∧ aI ⟨H0, [], []⟩ H [(lo24, 1, List.map (eL aB) bP)] ∧ yB l0 bP i4 at5 = some out1) ?_ ⟨bP, (0 : Int), lo4, .eq (by kernel_rfl), hO, h1⟩
    clear hO h1
    rintro T H ⟨bP, at5, lo24, hT, hO, h1⟩
    refine bD hT ?_
    clear hT
    unfold yB at h1
    obtain ⟨rr1, hl1, h1⟩ := aZ h1
    refine cR (by kernel_rfl) (fun (s : List (List aC) × Int) T H => ∃ lo24 : Nat, Has T [(0, (eL aQ l0)), (3, (.msl 1 lo24 0 (List.length s.1))), (4, (eI i4)), (5, (eI s.2))] ∧ aI ⟨H0, [], []⟩ H [(lo24, 1, List.map (eL aB) s.1)]) hl1 ⟨lo24, .eq (by kernel_rfl), hO⟩ ?_
    clear hO
    rintro k1 s out2 T H ⟨lo24, hT, hO⟩ h2 ho1
    obtain ⟨bP, at5⟩ := s
    replace h2 : mF l0 i4 bP at5 = some out2 := h2
    try dsimp only at hT
    refine bD hT ?_
    clear hT
    unfold mF at h2
    refine aL ?_
    refine aL ?_
    obtain ⟨c25, h2⟩ := bA h2
    obtain ⟨c26, h2⟩ := bA h2
    obtain ⟨x27, hx28, h2⟩ := aZ h2
    refine eS (eU [27]) aD 17 ?_
    refine mB (K := fun T H => Has (lift T) [(0, (eL aQ l0)), (3, (.msl 1 lo24 0 (List.length bP))), (4, (eI i4)), (5, (eI at5)), (30, (aE ((decide (at5 < (lN bP))) && (decide (x27 < (0 : Int))))))] ∧ aI ⟨H0, [], []⟩ H [(lo24, 1, List.map (eL aB) bP)]) ?_ ?_
    · refine jZ 5 ?_
      refine kB (t := 18) (e := decide (at5 < (lN bP))) (by kernel_rfl) (fun hg29 => ?_) (fun hg29 => ?_)
      · refine cI 8 [0 ≤ at5 ∧ at5 < (lN bP)] ⟨(c25 hg29), trivial⟩ ?_
        refine jG 0 lo24 1 (0 + Int.toNat at5) (eL aB (gD bP at5)) (eL aB (gD bP at5)) (List.map (eL aB) bP) (by kernel_rfl) (by kernel_rfl) (by kernel_rfl) hO (by kernel_rfl) (cF (c25 hg29)) ?_
        refine cI 14 [0 ≤ i4 ∧ i4 < (lN l0)] ⟨(c26 hg29), trivial⟩ ?_
        refine lZ 65 [(eL aB (gD bP at5)), (eL aB ((gD l0 i4).Row))] (eI x27) (by kernel_rfl) (by kernel_rfl) (DJ (gD bP at5) ((gD l0 i4).Row) _ (gV hx28 hg29)) hO ?_
        intro H hO
        refine gK ?_
        exact ⟨⟨[(0, (eL aQ l0)), (3, (.msl 1 lo24 0 (List.length bP))), (4, (eI i4)), (5, (eI at5)), (30, (aE (decide (x27 < (0 : Int)))))], by kernel_rfl, rfl, ⟨aN.refl _, aN.refl _, aN.refl _, aN.refl _, aN.eq (congrArg aE (gY hg29 rfl).symm), trivial⟩⟩, hO⟩
      refine gK ?_
      exact ⟨⟨[(0, (eL aQ l0)), (3, (.msl 1 lo24 0 (List.length bP))), (4, (eI i4)), (5, (eI at5)), (30, (aE false))], by kernel_rfl, rfl, ⟨aN.refl _, aN.refl _, aN.refl _, aN.refl _, aN.eq (congrArg aE (gY hg29 rfl).symm), trivial⟩⟩, hO⟩
    · rintro T H ⟨hT, hO⟩
      refine dS hT ?_
      clear hT
      refine aG (aF ?_)
      refine bJ h2 (fun h2 => ?_) (fun h2 => ?_)
      · refine bK ?_
        refine bH [(0, (eL aQ l0)), (3, (.msl 1 lo24 0 (List.length bP))), (4, (eI i4)), (5, (eI at5))] ?_
        refine cA 3 ?_
        refine aW aD 3 ?_
        refine bG ?_
        exact aG (aY (aF (⟨rfl, _, (oI h2).symm, _, .eq (by kernel_rfl), hO⟩)))
      refine eR 2 ?_
      obtain rfl := oI h2
      obtain rfl : _ = rr1 := ho1
      replace h1 : tR l0 bP i4 at5 = some out1 := h1
      exact aG (aV (aV (bS (aF (⟨rfl, _, _, _, .eq (by kernel_rfl), hO, h1⟩)))))
  refine eR 0 ?_
  obtain rfl := oI h1
  obtain rfl : _ = rr0 := ho0
  replace h0 : xU bP = some r := h0
  exact aG (aV (aV (bS (aF (⟨rfl, _, _, .eq (by kernel_rfl), hO, h0⟩)))))

theorem xZ (l0 : (List aR)) (r1 : (List aC)) (r : (List aH)) (h0 : nE l0 r1 = some r) : dJ Try.prog 39 [(eL aQ l0), (eL aB r1)] (eL aK r) := by
  intro H0
  refine dH Try.func39 ?_
  have hO := aI.start H0
  unfold nE at h0
  refine aX aD 1 [] [] ?_
  refine aL ?_
  refine aW aD 2 ?_
  refine mR (xs := []) (k := 2) (by kernel_rfl) (by kernel_rfl) ?_
  refine bG ?_
  refine bZ [] [(5, (.sl true 0 (fun _ => .bad)))] ?_
  refine dP (fun T H => ∃ f5 : List aH, ∃ lo1 : Nat, Has T [(5, (.msl 2 lo1 0 (List.length f5)))] ∧ aI ⟨H0, [], []⟩ H [(lo1, 2, List.map aK f5)] ∧ wI f5 = some r) ?_ ?_
  · clear hO h0
    rintro T H ⟨f5, lo1, hT, hO, h0⟩
    refine bD hT ?_
    clear hT
    unfold wI at h0
    refine bV aD 2 [(4, (.msl 2 lo1 0 (List.length f5)))] ?_
    refine bL ?_
    refine eP [(4, (.msl 2 lo1 0 (List.length f5)))] ?_
    refine sG (en := aK) f5 0 0 4 2 lo1 (List.length f5) hO (by kernel_rfl) (by kernel_rfl) (by kernel_rfl) (L' := []) (by kernel_rfl) ?_
    intro H2 hO
    obtain rfl := oI h0
    exact aG (Q_r hO)
  refine aX aD 1 [] [(6, (eI (0 : Int)))] ?_
  refine cA 0 ?_
  refine eG [(0, (eL aQ l0)), (1, (eL aB r1)), (5, (.sl true 0 (fun _ => .bad))), (6, (eI (0 : Int)))] ?_
  refine CU (el := (fun _ => .bad)) 2 5 2 hO (by kernel_rfl) ?_
  intro lo16 H17 hO
  refine dY (fun T H => ∃ f5 : List aH, ∃ i6 : Int, ∃ lo4 : Nat, Has T [(0, (eL aQ l0)), (1, (eL aB r1)), (5, (.msl 2 lo4 0 (List.length f5))), (6, (eI i6))] ∧ aI ⟨H0, [], []⟩ H [(lo4, 2, List.map aK f5)] ∧ wD l0 r1 f5 i6 = some r) ?_ ⟨([] : List aH), (0 : Int), lo16, .eq (by kernel_rfl), hO, h0⟩
  clear hO h0
  rintro T H ⟨f5, i6, lo4, hT, hO, h0⟩
  refine bD hT ?_
  clear hT
  unfold wD at h0
  obtain ⟨rr0, hl0, h0⟩ := aZ h0
  refine cR (by kernel_rfl) (fun (s : List aH × Int) T H => ∃ lo4 : Nat, Has T [(0, (eL aQ l0)), (1, (eL aB r1)), (5, (.msl 2 lo4 0 (List.length s.1))), (6, (eI s.2))] ∧ aI ⟨H0, [], []⟩ H [(lo4, 2, List.map aK s.1)]) hl0 ⟨lo4, .eq (by kernel_rfl), hO⟩ ?_
  clear hO
  rintro k0 s out1 T H ⟨lo4, hT, hO⟩ h1 ho0
  obtain ⟨f5, i6⟩ := s
  replace h1 : mP l0 r1 f5 i6 = some out1 := h1
  try dsimp only at hT
  refine bD hT ?_
  clear hT
  unfold mP at h1
  refine aL ?_
  refine aX aD 4 [] [(11, (aE (decide (i6 < (lN l0)))))] ?_
  refine bJ h1 (fun h1 => ?_) (fun h1 => ?_)
  · refine bK ?_
    refine bH [(0, (eL aQ l0)), (1, (eL aB r1)), (5, (.msl 2 lo4 0 (List.length f5))), (6, (eI i6))] ?_
    refine dP (fun T H => ∃ f5 : List aH, ∃ lo6 : Nat, Has T [(0, (eL aQ l0)), (1, (eL aB r1)), (5, (.msl 2 lo6 0 (List.length f5))), (6, (eI i6))] ∧ aI ⟨H0, [], []⟩ H [(lo6, 2, List.map aK f5)] ∧ sA l0 r1 f5 i6 = some out1) ?_ ?_
    · clear hO h1
      rintro T H ⟨f5, lo6, hT, hO, h1⟩
      refine bD hT ?_
      clear hT
      unfold sA at h1
      refine aW aD 3 ?_
      refine bG ?_
      exact aG (aF (⟨rfl, _, (oI h1).symm, _, .eq (by kernel_rfl), hO⟩))
    refine cA 1 ?_
    refine aL ?_
    refine aW aD 7 ?_
    obtain ⟨c7, h1⟩ := bA h1
    refine pZ 6 [0 ≤ i6 ∧ i6 < (lN l0)] ⟨c7, trivial⟩ ?_
    obtain ⟨x8, hx9, h1⟩ := aZ h1
    refine dQ (CE ((gD l0 i6).Row) r1 _ hx9) hO ?_
    intro H hO
    refine eT ?_
    refine bZ [] [(20, (aE x8))] ?_
    refine bJ h1 (fun h1 => ?_) (fun h1 => ?_)
    · refine eS (eU [26, 31, 33]) aD 15 ?_
      obtain ⟨c12, h1⟩ := bA h1
      obtain ⟨c13, h1⟩ := bA h1
      refine cI 12 [0 ≤ i6 ∧ i6 < (lN l0), 0 ≤ i6 ∧ i6 < (lN l0)] ⟨c12, c13, trivial⟩ ?_
      refine SH (xs := [(aK (aH.mk ((gD l0 i6).At) ((gD l0 i6).Net)))]) (k := 2) (by kernel_rfl) (by kernel_rfl) ?_
      obtain ⟨c15, h1⟩ := bA h1
      refine JB (e := aK) f5 ([aH.mk ((gD l0 i6).At) ((gD l0 i6).Net)]) 0 lo4 2 16 (eK [(aK (aH.mk ((gD l0 i6).At) ((gD l0 i6).Net)))]) (fun lo14 => [(lo14, 2, List.map aK (f5 ++ ([aH.mk ((gD l0 i6).At) ((gD l0 i6).Net)])))]) (by kernel_rfl) (by kernel_rfl) hO (by kernel_rfl) (by kernel_rfl) c15 (fun _ => by kernel_rfl) ?_
      intro lo14 H hO
      refine gK ?_
      exact aG (aY (aF (⟨rfl, _, _, .eq (by kernel_rfl), hO, h1⟩)))
    refine bK ?_
    exact aG (aY (aF (⟨rfl, _, _, .eq (by kernel_rfl), hO, h1⟩)))
  refine eR 0 ?_
  obtain rfl := oI h1
  obtain rfl : _ = rr0 := ho0
  replace h0 : wI f5 = some r := h0
  exact aG (aV (aV (bS (aF (⟨rfl, _, _, .eq (by kernel_rfl), hO, h0⟩)))))

theorem JV (l0 : (List aR)) (r : Bool) (h0 : tX l0 = some r) : dJ Try.prog 35 [(eL aQ l0)] (aE r) := by
  intro H0
  refine dH Try.func35 ?_
  have hO := aI.start H0
  unfold tX at h0
  refine aX aD 1 [] [] ?_
  refine aL ?_
  refine aX aD 3 [] [(9, (aE (decide ((4096 : Int) < (lN l0)))))] ?_
  refine bJ h0 (fun h0 => ?_) (fun h0 => ?_)
  · refine bV aD 1 [(2, (aE false))] ?_
    refine bL ?_
    obtain rfl := oI h0
    exact aG (aO (Q_r hO))
  refine bK ?_
  refine bH [(0, (eL aQ l0))] ?_
  refine dP (fun T H => Has T [(0, (eL aQ l0))] ∧ aI ⟨H0, [], []⟩ H [] ∧ vO l0 = some r) ?_ ?_
  · clear hO h0
    rintro T H ⟨hT, hO, h0⟩
    refine bD hT ?_
    clear hT
    unfold vO at h0
    refine aL ?_
    refine aW aD 3 ?_
    refine bU 1 ?_
    obtain ⟨x2, hx3, h0⟩ := aZ h0
    refine dQ (DE l0 _ hx3) hO ?_
    intro H hO
    refine bG ?_
    refine bZ [] [(5, (eL (eL aB) x2))] ?_
    refine dP (fun T H => Has T [] ∧ aI ⟨H0, [], []⟩ H [] ∧ zM  = some r) ?_ ?_
    · clear hO h0
      rintro T H ⟨hT, hO, h0⟩
      refine bD hT ?_
      clear hT
      unfold zM at h0
      refine bV aD 1 [(2, (aE true))] ?_
      refine bL ?_
      obtain rfl := oI h0
      exact aG (Q_r hO)
    refine aX aD 1 [] [(6, (eI (0 : Int)))] ?_
    refine cA 2 ?_
    refine eG [(0, (eL aQ l0)), (5, (eL (eL aB) x2)), (6, (eI (0 : Int)))] ?_
    refine dY (fun T H => ∃ rI : (List (List aC)), ∃ i6 : Int, Has T [(0, (eL aQ l0)), (5, (eL (eL aB) rI)), (6, (eI i6))] ∧ aI ⟨H0, [], []⟩ H [] ∧ zB l0 rI i6 = some r) ?_ ⟨x2, (0 : Int), .eq (by kernel_rfl), hO, h0⟩
    clear hO h0
    rintro T H ⟨rI, i6, hT, hO, h0⟩
    refine bD hT ?_
    clear hT
    unfold zB at h0
    obtain ⟨rr0, hl0, h0⟩ := aZ h0
    refine cR (by kernel_rfl) (fun (s : Int) T H => Has T [(0, (eL aQ l0)), (5, (eL (eL aB) rI)), (6, (eI s))] ∧ aI ⟨H0, [], []⟩ H []) hl0 ⟨.eq (by kernel_rfl), hO⟩ ?_
    clear hO
    rintro k0 s out1 T H ⟨hT, hO⟩ h1 ho0
    obtain ⟨i6, rfl⟩ : ∃ x, x = s := ⟨_, rfl⟩
    replace h1 : pU l0 rI i6 = some out1 := h1
    refine bD hT ?_
    clear hT
    unfold pU at h1
    refine aL ?_
    refine aX aD 4 [] [(78, (aE (decide (i6 < (lN rI)))))] ?_
    refine bJ h1 (fun h1 => ?_) (fun h1 => ?_)
    · refine bK ?_
      refine bH [(0, (eL aQ l0)), (5, (eL (eL aB) rI)), (6, (eI i6))] ?_
      refine aL ?_
      refine cA 3 ?_
      refine aL ?_
      refine aW aD 8 ?_
      obtain ⟨c6, h1⟩ := bA h1
      refine pZ 5 [0 ≤ i6 ∧ i6 < (lN rI)] ⟨c6, trivial⟩ ?_
      obtain ⟨x7, hx8, h1⟩ := aZ h1
      refine dQ (xZ l0 (gD rI i6) _ hx8) hO ?_
      intro H hO
      refine bG ?_
      refine bZ [] [(88, (aE (decide ((1024 : Int) < (lN x7)))))] ?_
      refine bJ h1 (fun h1 => ?_) (fun h1 => ?_)
      · refine bV aD 1 [(2, (aE false))] ?_
        refine bL ?_
        obtain rfl := oI h1
        obtain rfl : _ = rr0 := ho0
        replace h0 : some false = some r := h0
        obtain rfl := oI h0
        exact aG (bE (aO (aO (bE (aO (Q_r hO))))))
      refine bK ?_
      refine eP [(0, (eL aQ l0)), (5, (eL (eL aB) rI)), (6, (eI i6))] ?_
      refine aG (aY (aF (?_)))
      refine aW aD 3 ?_
      refine bG ?_
      exact aG (aF (⟨rfl, _, (oI h1).symm, .eq (by kernel_rfl), hO⟩))
    refine eR 2 ?_
    obtain rfl := oI h1
    obtain rfl : _ = rr0 := ho0
    replace h0 : zM  = some r := h0
    exact aG (aV (aV (bS (aF (⟨rfl, .eq (by kernel_rfl), hO, h0⟩)))))
  refine aX aD 1 [] [(3, (eI (0 : Int)))] ?_
  refine cA 0 ?_
  refine eG [(0, (eL aQ l0)), (3, (eI (0 : Int)))] ?_
  refine dY (fun T H => ∃ i3 : Int, Has T [(0, (eL aQ l0)), (3, (eI i3))] ∧ aI ⟨H0, [], []⟩ H [] ∧ zR l0 i3 = some r) ?_ ⟨(0 : Int), .eq (by kernel_rfl), hO, h0⟩
  clear hO h0
  rintro T H ⟨i3, hT, hO, h0⟩
  refine bD hT ?_
  clear hT
  unfold zR at h0
  obtain ⟨rr0, hl0, h0⟩ := aZ h0
  refine cR (by kernel_rfl) (fun (s : Int) T H => Has T [(0, (eL aQ l0)), (3, (eI s))] ∧ aI ⟨H0, [], []⟩ H []) hl0 ⟨.eq (by kernel_rfl), hO⟩ ?_
  clear hO
  rintro k0 s out1 T H ⟨hT, hO⟩ h1 ho0
  obtain ⟨i3, rfl⟩ : ∃ x, x = s := ⟨_, rfl⟩
  replace h1 : oD l0 i3 = some out1 := h1
  refine bD hT ?_
  clear hT
  unfold oD at h1
  refine aL ?_
  refine aX aD 4 [] [(13, (aE (decide (i3 < (lN l0)))))] ?_
  refine bJ h1 (fun h1 => ?_) (fun h1 => ?_)
  · refine bK ?_
    refine bH [(0, (eL aQ l0)), (3, (eI i3))] ?_
    refine dP (fun T H => Has T [(0, (eL aQ l0)), (3, (eI i3))] ∧ aI ⟨H0, [], []⟩ H [] ∧ rV l0 i3 = some out1) ?_ ?_
    · clear hO h1
      rintro T H ⟨hT, hO, h1⟩
      refine bD hT ?_
      clear hT
      unfold rV at h1
      refine aW aD 3 ?_
      refine bG ?_
      exact aG (aF (⟨rfl, _, (oI h1).symm, .eq (by kernel_rfl), hO⟩))
    refine cA 1 ?_
    refine aL ?_
    refine aL ?_
    obtain ⟨c12, h1⟩ := bA h1
    obtain ⟨x13, hx14, h1⟩ := aZ h1
    obtain ⟨c15, h1⟩ := bA h1
    obtain ⟨c16, h1⟩ := bA h1
    obtain ⟨x17, hx18, h1⟩ := aZ h1
    refine eS (eU [20, 28, 33]) aD 23 ?_
    refine mB (K := fun T H => Has (lift T) [(0, (eL aQ l0)), (3, (eI i3)), (38, (aE ((!x13) || (!x17))))] ∧ aI ⟨H0, [], []⟩ H []) ?_ ?_
    · refine cI 5 [0 ≤ i3 ∧ i3 < (lN l0)] ⟨c12, trivial⟩ ?_
      refine lZ 63 [(eL aB ((gD l0 i3).Row))] (aE x13) (by kernel_rfl) (by kernel_rfl) (ER ((gD l0 i3).Row) _ hx14) hO ?_
      intro H hO
      refine jZ 8 ?_
      refine kB (t := 23) (e := !x13) (by kernel_rfl) (fun hg19 => ?_) (fun hg19 => ?_)
      · refine gK ?_
        exact ⟨⟨[(0, (eL aQ l0)), (3, (eI i3)), (38, (aE true))], by kernel_rfl, rfl, ⟨aN.refl _, aN.refl _, aN.eq (congrArg aE (FV hg19 rfl).symm), trivial⟩⟩, hO⟩
      refine cI 19 [0 ≤ i3 ∧ i3 < (lN l0), 0 ≤ i3 ∧ i3 < (lN l0)] ⟨(c15 (zC hg19)), (c16 (zC hg19)), trivial⟩ ?_
      refine aDz (xs := [(aK (aH.mk ((gD l0 i3).At) ((gD l0 i3).Net)))]) (by kernel_rfl) (by kernel_rfl) ?_
      refine lZ 64 [(eK [(aK (aH.mk ((gD l0 i3).At) ((gD l0 i3).Net)))])] (aE x17) (by kernel_rfl) (by kernel_rfl) (dJ.sub (KI ([aH.mk ((gD l0 i3).At) ((gD l0 i3).Net)]) _ (gV hx18 (zC hg19))) ⟨LN (l := [aH.mk ((gD l0 i3).At) ((gD l0 i3).Net)]), trivial⟩) hO ?_
      intro H hO
      refine gK ?_
      exact ⟨⟨[(0, (eL aQ l0)), (3, (eI i3)), (38, (aE (!x17)))], by kernel_rfl, rfl, ⟨aN.refl _, aN.refl _, aN.eq (congrArg aE (FV hg19 rfl).symm), trivial⟩⟩, hO⟩
    · rintro T H ⟨hT, hO⟩
      refine dS hT ?_
      clear hT
      refine aG (aF ?_)
      refine bJ h1 (fun h1 => ?_) (fun h1 => ?_)
      · refine bV aD 1 [(2, (aE false))] ?_
        refine bL ?_
        obtain rfl := oI h1
        obtain rfl : _ = rr0 := ho0
        replace h0 : some false = some r := h0
        obtain rfl := oI h0
        exact aG (aO (bE (aO (aO (bE (aO (Q_r hO)))))))
      refine bK ?_
      refine bH [(0, (eL aQ l0)), (3, (eI i3))] ?_
      refine aL ?_
      refine aX aD 2 [] [(40, (aE (decide (i3 = (0 : Int)))))] ?_
      refine bJ h1 (fun h1 => ?_) (fun h1 => ?_)
      · refine eR 1 ?_
        exact aG (aV (bS (aF (⟨rfl, .eq (by kernel_rfl), hO, h1⟩))))
      refine bK ?_
      refine bH [(0, (eL aQ l0)), (3, (eI i3))] ?_
      refine aL ?_
      refine eS (eU [46, 51, 52]) aD 13 ?_
      obtain ⟨c22, h1⟩ := bA h1
      obtain ⟨c23, h1⟩ := bA h1
      refine cI 11 [0 ≤ (wR (i3 - (1 : Int))) ∧ (wR (i3 - (1 : Int))) < (lN l0), 0 ≤ i3 ∧ i3 < (lN l0)] ⟨c22, c23, trivial⟩ ?_
      obtain ⟨x24, hx25, h1⟩ := aZ h1
      refine yL (DJ ((gD l0 (wR (i3 - (1 : Int)))).Row) ((gD l0 i3).Row) _ hx25) hO ?_
      intro H hO
      refine gK ?_
      refine bZ [] [(4, (eI x24))] ?_
      refine aL ?_
      obtain ⟨c27, h1⟩ := bA h1
      obtain ⟨c28, h1⟩ := bA h1
      refine eS (eU [64, 69]) aD 20 ?_
      refine mB (K := fun T H => Has (lift T) [(0, (eL aQ l0)), (3, (eI i3)), (72, (aE ((decide ((0 : Int) < x24)) || ((decide (x24 = (0 : Int))) && (decide (((gD l0 i3).At) ≤ ((gD l0 (wR (i3 - (1 : Int)))).At)))))))] ∧ aI ⟨H0, [], []⟩ H []) ?_ ?_
      · refine jZ 3 ?_
        refine kB (t := 55) (e := decide ((0 : Int) < x24)) (by kernel_rfl) (fun hg29 => ?_) (fun hg29 => ?_)
        · refine gK ?_
          exact ⟨⟨[(0, (eL aQ l0)), (3, (eI i3)), (72, (aE true))], by kernel_rfl, rfl, ⟨aN.refl _, aN.refl _, aN.eq (congrArg aE (FV hg29 rfl).symm), trivial⟩⟩, hO⟩
        refine jZ 6 ?_
        refine kB (t := 58) (e := decide (x24 = (0 : Int))) (by kernel_rfl) (fun hg30 => ?_) (fun hg30 => ?_)
        · refine AS (Ds := [0 ≤ (wR (i3 - (1 : Int))) ∧ (wR (i3 - (1 : Int))) < (lN l0), 0 ≤ i3 ∧ i3 < (lN l0)]) (by kernel_rfl) ⟨(c27 (gY hg30 (zC hg29))), (c28 (gY hg30 (zC hg29))), trivial⟩ ?_
          exact ⟨⟨[(0, (eL aQ l0)), (3, (eI i3)), (72, (aE (decide (((gD l0 i3).At) ≤ ((gD l0 (wR (i3 - (1 : Int)))).At)))))], by kernel_rfl, rfl, ⟨aN.refl _, aN.refl _, aN.eq (congrArg aE (FV hg29 (gY hg30 rfl)).symm), trivial⟩⟩, hO⟩
        refine gK ?_
        exact ⟨⟨[(0, (eL aQ l0)), (3, (eI i3)), (72, (aE false))], by kernel_rfl, rfl, ⟨aN.refl _, aN.refl _, aN.eq (congrArg aE (FV hg29 (gY hg30 rfl)).symm), trivial⟩⟩, hO⟩
      · rintro T H ⟨hT, hO⟩
        refine dS hT ?_
        clear hT
        refine aG (aF ?_)
        refine bJ h1 (fun h1 => ?_) (fun h1 => ?_)
        · refine bV aD 1 [(2, (aE false))] ?_
          refine bL ?_
          obtain rfl := oI h1
          obtain rfl : _ = rr0 := ho0
          replace h0 : some false = some r := h0
          obtain rfl := oI h0
          exact aG (bE (aO (aO (bE (aO (Q_r hO))))))
        refine bK ?_
        exact aG (aY (aF (⟨rfl, .eq (by kernel_rfl), hO, h1⟩)))
  refine eR 0 ?_
  obtain rfl := oI h1
  obtain rfl : _ = rr0 := ho0
  replace h0 : vO l0 = some r := h0
  exact aG (aV (aV (bS (aF (⟨rfl, .eq (by kernel_rfl), hO, h0⟩)))))

theorem yC (f0 : (List aH)) (t1 : Int) (r : Int) (h0 : mH f0 t1 = some r) : dJ Try.prog 67 [(eL aK f0), (eI t1)] (eI r) := by
  intro H0
  refine dH Try.func67 ?_
  have hO := aI.start H0
  unfold mH at h0
  refine aX aD 1 [] [] ?_
  refine aX aD 1 [] [(5, (eI (0 : Int)))] ?_
  refine dP (fun T H => ∃ v5 : Int, Has T [(5, (eI v5))] ∧ aI ⟨H0, [], []⟩ H [] ∧ sF v5 = some r) ?_ ?_
  · clear hO h0
    rintro T H ⟨v5, hT, hO, h0⟩
    refine bD hT ?_
    clear hT
    unfold sF at h0
    refine bV aD 2 [(4, (eI v5))] ?_
    refine bL ?_
    obtain rfl := oI h0
    exact aG (Q_r hO)
  refine aX aD 1 [] [(6, (eI (0 : Int)))] ?_
  refine cA 0 ?_
  refine eG [(0, (eL aK f0)), (1, (eI t1)), (5, (eI (0 : Int))), (6, (eI (0 : Int)))] ?_
  refine dY (fun T H => ∃ v5 : Int, ∃ i6 : Int, Has T [(0, (eL aK f0)), (1, (eI t1)), (5, (eI v5)), (6, (eI i6))] ∧ aI ⟨H0, [], []⟩ H [] ∧ wA f0 t1 v5 i6 = some r) ?_ ⟨(0 : Int), (0 : Int), .eq (by kernel_rfl), hO, h0⟩
  clear hO h0
  rintro T H ⟨v5, i6, hT, hO, h0⟩
  refine bD hT ?_
  clear hT
  unfold wA at h0
  obtain ⟨rr0, hl0, h0⟩ := aZ h0
  refine cR (by kernel_rfl) (fun (s : Int × Int) T H => Has T [(0, (eL aK f0)), (1, (eI t1)), (5, (eI s.1)), (6, (eI s.2))] ∧ aI ⟨H0, [], []⟩ H []) hl0 ⟨.eq (by kernel_rfl), hO⟩ ?_
  clear hO
  rintro k0 s out1 T H ⟨hT, hO⟩ h1 ho0
  obtain ⟨v5, i6⟩ := s
  replace h1 : kJ f0 t1 v5 i6 = some out1 := h1
  try dsimp only at hT
  refine bD hT ?_
  clear hT
  unfold kJ at h1
  refine aL ?_
  refine aX aD 4 [] [(10, (aE (decide (i6 < (lN f0)))))] ?_
  refine bJ h1 (fun h1 => ?_) (fun h1 => ?_)
  · refine bK ?_
    refine bH [(0, (eL aK f0)), (1, (eI t1)), (5, (eI v5)), (6, (eI i6))] ?_
    refine dP (fun T H => ∃ v5 : Int, Has T [(0, (eL aK f0)), (1, (eI t1)), (5, (eI v5)), (6, (eI i6))] ∧ aI ⟨H0, [], []⟩ H [] ∧ pG f0 t1 v5 i6 = some out1) ?_ ?_
    · clear hO h1
      rintro T H ⟨v5, hT, hO, h1⟩
      refine bD hT ?_
      clear hT
      unfold pG at h1
      refine aW aD 3 ?_
      refine bG ?_
      exact aG (aF (⟨rfl, _, (oI h1).symm, .eq (by kernel_rfl), hO⟩))
    refine cA 1 ?_
    refine aL ?_
    refine aW aD 7 ?_
    obtain ⟨c2, h1⟩ := bA h1
    refine oJ [0 ≤ i6 ∧ i6 < (lN f0)] ⟨c2, trivial⟩ ?_
    refine bZ [] [(19, (aE (decide (((gD f0 i6).At) ≤ t1))))] ?_
    refine bJ h1 (fun h1 => ?_) (fun h1 => ?_)
    · refine aW aD 8 ?_
      obtain ⟨c4, h1⟩ := bA h1
      refine oJ [0 ≤ i6 ∧ i6 < (lN f0)] ⟨c4, trivial⟩ ?_
      exact aG (aY (aF (⟨rfl, _, .eq (by kernel_rfl), hO, h1⟩)))
    refine bK ?_
    exact aG (aY (aF (⟨rfl, _, .eq (by kernel_rfl), hO, h1⟩)))
  refine eR 0 ?_
  obtain rfl := oI h1
  obtain rfl : _ = rr0 := ho0
  replace h0 : sF v5 = some r := h0
  exact aG (aV (aV (bS (aF (⟨rfl, _, .eq (by kernel_rfl), hO, h0⟩)))))

theorem RR (f0 : (List aH)) (r : Int) (h0 : tJ f0 = some r) : dJ Try.prog 66 [(eL aK f0)] (eI r) := by
  intro H0
  refine dH Try.func66 ?_
  have hO := aI.start H0
  unfold tJ at h0
  refine aX aD 1 [] [] ?_
  refine aL ?_
  refine aL ?_
  refine aW aD 3 ?_
  refine bU 1 ?_
  obtain ⟨x1, hx2, h0⟩ := aZ h0
  refine dQ (KI f0 _ hx2) hO ?_
  intro H hO
  refine bG ?_
  refine bZ [] [(7, (aE (!x1)))] ?_
  refine bJ h0 (fun h0 => ?_) (fun h0 => ?_)
  · refine bV aD 1 [(2, (eI (0 : Int)))] ?_
    refine bL ?_
    obtain rfl := oI h0
    exact aG (aO (Q_r hO))
  refine bK ?_
  refine bH [(0, (eL aK f0))] ?_
  refine aL ?_
  refine aW aD 3 ?_
  refine bU 1 ?_
  obtain ⟨x5, hx6, h0⟩ := aZ h0
  refine dQ (yC f0 (-1 : Int) _ hx6) hO ?_
  intro H hO
  refine bG ?_
  refine bZ [] [(3, (eI x5))] ?_
  refine dP (fun T H => ∃ m3 : Int, Has T [(3, (eI m3))] ∧ aI ⟨H0, [], []⟩ H [] ∧ sD m3 = some r) ?_ ?_
  · clear hO h0
    rintro T H ⟨m3, hT, hO, h0⟩
    refine bD hT ?_
    clear hT
    unfold sD at h0
    refine bV aD 2 [(2, (eI m3))] ?_
    refine bL ?_
    obtain rfl := oI h0
    exact aG (Q_r hO)
  refine aX aD 1 [] [(4, (eI (0 : Int)))] ?_
  refine cA 0 ?_
  refine eG [(0, (eL aK f0)), (3, (eI x5)), (4, (eI (0 : Int)))] ?_
  refine dY (fun T H => ∃ m3 : Int, ∃ i4 : Int, Has T [(0, (eL aK f0)), (3, (eI m3)), (4, (eI i4))] ∧ aI ⟨H0, [], []⟩ H [] ∧ wZ f0 m3 i4 = some r) ?_ ⟨x5, (0 : Int), .eq (by kernel_rfl), hO, h0⟩
  clear hO h0
  rintro T H ⟨m3, i4, hT, hO, h0⟩
  refine bD hT ?_
  clear hT
  unfold wZ at h0
  obtain ⟨rr0, hl0, h0⟩ := aZ h0
  refine cR (by kernel_rfl) (fun (s : Int × Int) T H => Has T [(0, (eL aK f0)), (3, (eI s.1)), (4, (eI s.2))] ∧ aI ⟨H0, [], []⟩ H []) hl0 ⟨.eq (by kernel_rfl), hO⟩ ?_
  clear hO
  rintro k0 s out1 T H ⟨hT, hO⟩ h1 ho0
  obtain ⟨m3, i4⟩ := s
  replace h1 : mQ f0 m3 i4 = some out1 := h1
  try dsimp only at hT
  refine bD hT ?_
  clear hT
  unfold mQ at h1
  refine aL ?_
  refine aX aD 4 [] [(13, (aE (decide (i4 < (lN f0)))))] ?_
  refine bJ h1 (fun h1 => ?_) (fun h1 => ?_)
  · refine bK ?_
    refine bH [(0, (eL aK f0)), (3, (eI m3)), (4, (eI i4))] ?_
    refine dP (fun T H => ∃ m3 : Int, Has T [(0, (eL aK f0)), (3, (eI m3)), (4, (eI i4))] ∧ aI ⟨H0, [], []⟩ H [] ∧ sC f0 m3 i4 = some out1) ?_ ?_
    · clear hO h1
      rintro T H ⟨m3, hT, hO, h1⟩
      refine bD hT ?_
      clear hT
      unfold sC at h1
      refine aW aD 3 ?_
      refine bG ?_
      exact aG (aF (⟨rfl, _, (oI h1).symm, .eq (by kernel_rfl), hO⟩))
    refine cA 1 ?_
    refine aL ?_
    refine aW aD 9 ?_
    obtain ⟨c9, h1⟩ := bA h1
    refine pZ 6 [0 ≤ i4 ∧ i4 < (lN f0)] ⟨c9, trivial⟩ ?_
    obtain ⟨x10, hx11, h1⟩ := aZ h1
    refine dQ (yC f0 ((gD f0 i4).At) _ hx11) hO ?_
    intro H hO
    refine bG ?_
    refine bZ [] [(24, (aE (decide (x10 < m3))))] ?_
    refine bJ h1 (fun h1 => ?_) (fun h1 => ?_)
    · refine aW aD 8 ?_
      obtain ⟨c14, h1⟩ := bA h1
      refine pZ 6 [0 ≤ i4 ∧ i4 < (lN f0)] ⟨c14, trivial⟩ ?_
      obtain ⟨x15, hx16, h1⟩ := aZ h1
      refine dQ (yC f0 ((gD f0 i4).At) _ hx16) hO ?_
      intro H hO
      refine bG ?_
      exact aG (aY (aF (⟨rfl, _, .eq (by kernel_rfl), hO, h1⟩)))
    refine bK ?_
    exact aG (aY (aF (⟨rfl, _, .eq (by kernel_rfl), hO, h1⟩)))
  refine eR 0 ?_
  obtain rfl := oI h1
  obtain rfl : _ = rr0 := ho0
  replace h0 : sD m3 = some r := h0
  exact aG (aV (aV (bS (aF (⟨rfl, _, .eq (by kernel_rfl), hO, h0⟩)))))

theorem RT (l0 : (List aR)) (r : Bool) (h0 : tI l0 = some r) : dJ Try.prog 36 [(eL aQ l0)] (aE r) := by
  intro H0
  refine dH Try.func36 ?_
  have hO := aI.start H0
  unfold tI at h0
  refine aX aD 1 [] [] ?_
  refine aL ?_
  refine aL ?_
  refine aW aD 3 ?_
  refine bU 1 ?_
  obtain ⟨x1, hx2, h0⟩ := aZ h0
  refine dQ (JV l0 _ hx2) hO ?_
  intro H hO
  refine bG ?_
  refine bZ [] [(7, (aE (!x1)))] ?_
  refine bJ h0 (fun h0 => ?_) (fun h0 => ?_)
  · refine bV aD 1 [(2, (aE false))] ?_
    refine bL ?_
    obtain rfl := oI h0
    exact aG (aO (Q_r hO))
  refine bK ?_
  refine bH [(0, (eL aQ l0))] ?_
  refine aL ?_
  refine aW aD 3 ?_
  refine bU 1 ?_
  obtain ⟨x5, hx6, h0⟩ := aZ h0
  refine dQ (DE l0 _ hx6) hO ?_
  intro H hO
  refine bG ?_
  refine bZ [] [(3, (eL (eL aB) x5))] ?_
  refine dP (fun T H => Has T [] ∧ aI ⟨H0, [], []⟩ H [] ∧ wE  = some r) ?_ ?_
  · clear hO h0
    rintro T H ⟨hT, hO, h0⟩
    refine bD hT ?_
    clear hT
    unfold wE at h0
    refine bV aD 1 [(2, (aE true))] ?_
    refine bL ?_
    obtain rfl := oI h0
    exact aG (Q_r hO)
  refine aX aD 1 [] [(4, (eI (0 : Int)))] ?_
  refine cA 0 ?_
  refine eG [(0, (eL aQ l0)), (3, (eL (eL aB) x5)), (4, (eI (0 : Int)))] ?_
  refine dY (fun T H => ∃ bP : (List (List aC)), ∃ i4 : Int, Has T [(0, (eL aQ l0)), (3, (eL (eL aB) bP)), (4, (eI i4))] ∧ aI ⟨H0, [], []⟩ H [] ∧ wB l0 bP i4 = some r) ?_ ⟨x5, (0 : Int), .eq (by kernel_rfl), hO, h0⟩
  clear hO h0
  rintro T H ⟨bP, i4, hT, hO, h0⟩
  refine bD hT ?_
  clear hT
  unfold wB at h0
  obtain ⟨rr0, hl0, h0⟩ := aZ h0
  refine cR (by kernel_rfl) (fun (s : Int) T H => Has T [(0, (eL aQ l0)), (3, (eL (eL aB) bP)), (4, (eI s))] ∧ aI ⟨H0, [], []⟩ H []) hl0 ⟨.eq (by kernel_rfl), hO⟩ ?_
  clear hO
  rintro k0 s out1 T H ⟨hT, hO⟩ h1 ho0
  obtain ⟨i4, rfl⟩ : ∃ x, x = s := ⟨_, rfl⟩
  replace h1 : nV l0 bP i4 = some out1 := h1
  refine bD hT ?_
  clear hT
  unfold nV at h1
  refine aL ?_
  refine aX aD 4 [] [(13, (aE (decide (i4 < (lN bP)))))] ?_
  refine bJ h1 (fun h1 => ?_) (fun h1 => ?_)
  · refine bK ?_
    refine bH [(0, (eL aQ l0)), (3, (eL (eL aB) bP)), (4, (eI i4))] ?_
    refine aL ?_
    refine cA 1 ?_
    refine aL ?_
    refine aW aD 8 ?_
    obtain ⟨c9, h1⟩ := bA h1
    refine pZ 5 [0 ≤ i4 ∧ i4 < (lN bP)] ⟨c9, trivial⟩ ?_
    obtain ⟨x10, hx11, h1⟩ := aZ h1
    refine dQ (xZ l0 (gD bP i4) _ hx11) hO ?_
    intro H hO
    obtain ⟨x13, hx14, h1⟩ := aZ h1
    refine dQ (RR x10 _ hx14) hO ?_
    intro H hO
    refine bG ?_
    refine bZ [] [(23, (aE (decide (x13 < (0 : Int)))))] ?_
    refine bJ h1 (fun h1 => ?_) (fun h1 => ?_)
    · refine bV aD 1 [(2, (aE false))] ?_
      refine bL ?_
      obtain rfl := oI h1
      obtain rfl : _ = rr0 := ho0
      replace h0 : some false = some r := h0
      obtain rfl := oI h0
      exact aG (bE (aO (aO (bE (aO (Q_r hO))))))
    refine bK ?_
    refine eP [(0, (eL aQ l0)), (3, (eL (eL aB) bP)), (4, (eI i4))] ?_
    refine aG (aY (aF (?_)))
    refine aW aD 3 ?_
    refine bG ?_
    exact aG (aF (⟨rfl, _, (oI h1).symm, .eq (by kernel_rfl), hO⟩))
  refine eR 0 ?_
  obtain rfl := oI h1
  obtain rfl : _ = rr0 := ho0
  replace h0 : wE  = some r := h0
  exact aG (aV (aV (bS (aF (⟨rfl, .eq (by kernel_rfl), hO, h0⟩)))))

end Go.Abs
namespace Go.Abs
open Go Go.RowKit Go.Proofs
theorem RL (f0 : (List aH)) (r : (List aT)) (h0 : tG f0 = some r) : dJ Try.prog 38 [(eL aK f0)] (eL bB r) := by
  intro H0
  refine dH Try.func38 ?_
  have hO := aI.start H0
  unfold tG at h0
  refine aX aD 1 [] [] ?_
  refine aL ?_
  refine aW aD 2 ?_
  refine mR (xs := []) (k := 2) (by kernel_rfl) (by kernel_rfl) ?_
  refine bG ?_
  refine bZ [] [(3, (.sl true 0 (fun _ => .bad)))] ?_
  refine aX aD 1 [] [(4, (eI (0 : Int)))] ?_
  refine aX aD 1 [] [(5, (eI (0 : Int)))] ?_
  refine dP (fun T H => ∃ out3 : List aT, ∃ n4 : Int, ∃ fR : Int, ∃ lo1 : Nat, Has T [(3, (.msl 2 lo1 0 (List.length out3))), (4, (eI n4)), (5, (eI fR))] ∧ aI ⟨H0, [], []⟩ H [(lo1, 2, List.map bB out3)] ∧ pL out3 n4 fR = some r) ?_ ?_
  · clear hO h0
    rintro T H ⟨out3, n4, fR, lo1, hT, hO, h0⟩
    refine bD hT ?_
    clear hT
    unfold pL at h0
    refine dP (fun T H => ∃ out3 : List aT, ∃ lo2 : Nat, Has T [(3, (.msl 2 lo2 0 (List.length out3)))] ∧ aI ⟨H0, [], []⟩ H [(lo2, 2, List.map bB out3)] ∧ rQ out3 = some r) ?_ ?_
    · clear hO h0
      rintro T H ⟨out3, lo2, hT, hO, h0⟩
      refine bD hT ?_
      clear hT
      unfold rQ at h0
      refine bV aD 2 [(2, (.msl 2 lo2 0 (List.length out3)))] ?_
      refine bL ?_
      refine eP [(2, (.msl 2 lo2 0 (List.length out3)))] ?_
      refine sG (en := bB) out3 0 0 2 2 lo2 (List.length out3) hO (by kernel_rfl) (by kernel_rfl) (by kernel_rfl) (L' := []) (by kernel_rfl) ?_
      intro H3 hO
      obtain rfl := oI h0
      exact aG (Q_r hO)
    refine aX aD 2 [4] [(41, (aE (decide ((0 : Int) < n4))))] ?_
    refine bJ h0 (fun h0 => ?_) (fun h0 => ?_)
    · refine aW aD 6 ?_
      refine bU 3 ?_
      refine mR (xs := [(bB (aT.mk fR (1125899906842624 : Int)))]) (k := 2) (by kernel_rfl) (by kernel_rfl) ?_
      obtain ⟨c6, h0⟩ := bA h0
      refine pM (e := bB) out3 ([aT.mk fR (1125899906842624 : Int)]) 0 lo1 2 16 (eK [(bB (aT.mk fR (1125899906842624 : Int)))]) (fun lo5 => [(lo5, 2, List.map bB (out3 ++ ([aT.mk fR (1125899906842624 : Int)])))]) (by kernel_rfl) (by kernel_rfl) hO (by kernel_rfl) (by kernel_rfl) c6 (fun _ => by kernel_rfl) ?_
      intro lo5 H hO
      refine bG ?_
      exact aG (aF (⟨rfl, _, _, .eq (by kernel_rfl), hO, h0⟩))
    refine bK ?_
    exact aG (aF (⟨rfl, _, _, .eq (by kernel_rfl), hO, h0⟩))
  refine bV aD 1 [(0, (eL aK f0)), (3, (.sl true 0 (fun _ => .bad))), (4, (eI (0 : Int))), (5, (eI (0 : Int))), (6, (eI (0 : Int)))] ?_
  refine cA 0 ?_
  refine eG [(0, (eL aK f0)), (3, (.sl true 0 (fun _ => .bad))), (4, (eI (0 : Int))), (5, (eI (0 : Int))), (6, (eI (0 : Int)))] ?_
  refine CU (el := (fun _ => .bad)) 1 3 2 hO (by kernel_rfl) ?_
  intro lo19 H20 hO
  refine dY (fun T H => ∃ out3 : List aT, ∃ n4 : Int, ∃ fR : Int, ∃ i6 : Int, ∃ lo8 : Nat, Has T [(0, (eL aK f0)), (3, (.msl 2 lo8 0 (List.length out3))), (4, (eI n4)), (5, (eI fR)), (6, (eI i6))] ∧ aI ⟨H0, [], []⟩ H [(lo8, 2, List.map bB out3)] ∧ wK f0 out3 n4 fR i6 = some r) ?_ ⟨([] : List aT), (0 : Int), (0 : Int), (0 : Int), lo19, .eq (by kernel_rfl), hO, h0⟩
  clear hO h0
  rintro T H ⟨out3, n4, fR, i6, lo8, hT, hO, h0⟩
  refine bD hT ?_
  clear hT
  unfold wK at h0
  obtain ⟨rr0, hl0, h0⟩ := aZ h0
  refine cR (by kernel_rfl) (fun (s : List aT × Int × Int × Int) T H => ∃ lo8 : Nat, Has T [(0, (eL aK f0)), (3, (.msl 2 lo8 0 (List.length s.1))), (4, (eI s.2.1)), (5, (eI s.2.2.1)), (6, (eI s.2.2.2))] ∧ aI ⟨H0, [], []⟩ H [(lo8, 2, List.map bB s.1)]) hl0 ⟨lo8, .eq (by kernel_rfl), hO⟩ ?_
  clear hO
  rintro k0 s out1 T H ⟨lo8, hT, hO⟩ h1 ho0
  obtain ⟨out3, n4, fR, i6⟩ := s
  replace h1 : iD f0 out3 n4 fR i6 = some out1 := h1
  try dsimp only at hT
  refine bD hT ?_
  clear hT
  unfold iD at h1
  refine aL ?_
  refine aX aD 4 [] [(11, (aE (decide (i6 < (lN f0)))))] ?_
  refine bJ h1 (fun h1 => ?_) (fun h1 => ?_)
  · refine bK ?_
    refine bH [(0, (eL aK f0)), (3, (.msl 2 lo8 0 (List.length out3))), (4, (eI n4)), (5, (eI fR)), (6, (eI i6))] ?_
    refine dP (fun T H => ∃ out3 : List aT, ∃ n4 : Int, ∃ fR : Int, ∃ lo10 : Nat, Has T [(0, (eL aK f0)), (3, (.msl 2 lo10 0 (List.length out3))), (4, (eI n4)), (5, (eI fR)), (6, (eI i6))] ∧ aI ⟨H0, [], []⟩ H [(lo10, 2, List.map bB out3)] ∧ pF f0 out3 n4 fR i6 = some out1) ?_ ?_
    · clear hO h1
      rintro T H ⟨out3, n4, fR, lo10, hT, hO, h1⟩
      refine bD hT ?_
      clear hT
      unfold pF at h1
      refine aW aD 3 ?_
      refine bG ?_
      exact aG (aF (⟨rfl, _, (oI h1).symm, _, .eq (by kernel_rfl), hO⟩))
    refine cA 1 ?_
    refine dP (fun T H => ∃ out3 : List aT, ∃ fR : Int, ∃ lo11 : Nat, Has T [(0, (eL aK f0)), (3, (.msl 2 lo11 0 (List.length out3))), (4, (eI n4)), (5, (eI fR)), (6, (eI i6))] ∧ aI ⟨H0, [], []⟩ H [(lo11, 2, List.map bB out3)] ∧ nQ f0 out3 n4 fR i6 = some out1) ?_ ?_
    · clear hO h1
      rintro T H ⟨out3, fR, lo11, hT, hO, h1⟩
      refine bD hT ?_
      clear hT
      unfold nQ at h1
      refine aL ?_
      refine aW aD 8 ?_
      obtain ⟨c12, h1⟩ := bA h1
      refine oJ [0 ≤ i6 ∧ i6 < (lN f0)] ⟨c12, trivial⟩ ?_
      refine bZ [4] [(4, (eI (wR (n4 + ((gD f0 i6).Net)))))] ?_
      refine aX aD 2 [] [(29, (aE (decide ((wR (n4 + ((gD f0 i6).Net))) = (0 : Int)))))] ?_
      refine bJ h1 (fun h1 => ?_) (fun h1 => ?_)
      · refine aW aD 11 ?_
        obtain ⟨c14, h1⟩ := bA h1
        refine pZ 8 [0 ≤ i6 ∧ i6 < (lN f0)] ⟨c14, trivial⟩ ?_
        refine mR (xs := [(bB (aT.mk fR ((gD f0 i6).At)))]) (k := 2) (by kernel_rfl) (by kernel_rfl) ?_
        obtain ⟨c16, h1⟩ := bA h1
        refine pM (e := bB) out3 ([aT.mk fR ((gD f0 i6).At)]) 0 lo11 2 16 (eK [(bB (aT.mk fR ((gD f0 i6).At)))]) (fun lo15 => [(lo15, 2, List.map bB (out3 ++ ([aT.mk fR ((gD f0 i6).At)])))]) (by kernel_rfl) (by kernel_rfl) hO (by kernel_rfl) (by kernel_rfl) c16 (fun _ => by kernel_rfl) ?_
        intro lo15 H hO
        refine bG ?_
        exact aG (aY (aF (⟨rfl, _, _, _, _, .eq (by kernel_rfl), hO, h1⟩)))
      refine bK ?_
      exact aG (aY (aF (⟨rfl, _, _, _, _, .eq (by kernel_rfl), hO, h1⟩)))
    refine aX aD 2 [] [(15, (aE (decide (n4 = (0 : Int)))))] ?_
    refine bJ h1 (fun h1 => ?_) (fun h1 => ?_)
    · refine aW aD 6 ?_
      obtain ⟨c18, h1⟩ := bA h1
      refine oJ [0 ≤ i6 ∧ i6 < (lN f0)] ⟨c18, trivial⟩ ?_
      exact aG (aF (⟨rfl, _, _, _, .eq (by kernel_rfl), hO, h1⟩))
    refine bK ?_
    exact aG (aF (⟨rfl, _, _, _, .eq (by kernel_rfl), hO, h1⟩))
  refine eR 0 ?_
  obtain rfl := oI h1
  obtain rfl : _ = rr0 := ho0
  replace h0 : pL out3 n4 fR = some r := h0
  exact aG (aV (aV (bS (aF (⟨rfl, _, _, _, _, .eq (by kernel_rfl), hO, h0⟩)))))

theorem SX (l0 : (List Int)) (t1 : Int) (r : (List Int)) (h0 : vE l0 t1 = some r) : dJ Try.prog 40 [(eL (eI) l0), (eI t1)] (eL (eI) r) := by
  intro H0
  refine dH Try.func40 ?_
  have hO := aI.start H0
  unfold vE at h0
  refine aX aD 1 [] [] ?_
  refine aL ?_
  refine aW aD 2 ?_
  refine mR (xs := []) (k := 1) (by kernel_rfl) (by kernel_rfl) ?_
  refine bG ?_
  refine bZ [] [(5, (.sl true 0 (fun _ => .bad)))] ?_
  refine aX aD 1 [] [(6, (aE false))] ?_
  refine dP (fun T H => ∃ out5 : List Int, ∃ put6 : Bool, ∃ lo1 : Nat, Has T [(1, (eI t1)), (5, (.msl 1 lo1 0 (List.length out5))), (6, (aE put6))] ∧ aI ⟨H0, [], []⟩ H [(lo1, 1, List.map (eI) out5)] ∧ qJ t1 out5 put6 = some r) ?_ ?_
  · clear hO h0
    rintro T H ⟨out5, put6, lo1, hT, hO, h0⟩
    refine bD hT ?_
    clear hT
    unfold qJ at h0
    refine dP (fun T H => ∃ out5 : List Int, ∃ lo2 : Nat, Has T [(5, (.msl 1 lo2 0 (List.length out5)))] ∧ aI ⟨H0, [], []⟩ H [(lo2, 1, List.map (eI) out5)] ∧ qL out5 = some r) ?_ ?_
    · clear hO h0
      rintro T H ⟨out5, lo2, hT, hO, h0⟩
      refine bD hT ?_
      clear hT
      unfold qL at h0
      refine bV aD 2 [(4, (.msl 1 lo2 0 (List.length out5)))] ?_
      refine bL ?_
      refine eP [(4, (.msl 1 lo2 0 (List.length out5)))] ?_
      refine sG (en := (eI)) out5 0 0 4 1 lo2 (List.length out5) hO (by kernel_rfl) (by kernel_rfl) (by kernel_rfl) (L' := []) (by kernel_rfl) ?_
      intro H3 hO
      obtain rfl := oI h0
      exact aG (Q_r hO)
    refine aX aD 2 [6] [(44, (aE (!put6)))] ?_
    refine bJ h0 (fun h0 => ?_) (fun h0 => ?_)
    · refine aW aD 5 ?_
      refine bU 2 ?_
      refine mR (xs := [(eI t1)]) (k := 1) (by kernel_rfl) (by kernel_rfl) ?_
      obtain ⟨c6, h0⟩ := bA h0
      refine pM (e := (eI)) out5 ([t1]) 0 lo1 1 8 (eK [(eI t1)]) (fun lo5 => [(lo5, 1, List.map (eI) (out5 ++ ([t1])))]) (by kernel_rfl) (by kernel_rfl) hO (by kernel_rfl) (by kernel_rfl) c6 (fun _ => by kernel_rfl) ?_
      intro lo5 H hO
      refine bG ?_
      exact aG (aF (⟨rfl, _, _, .eq (by kernel_rfl), hO, h0⟩))
    refine bK ?_
    exact aG (aF (⟨rfl, _, _, .eq (by kernel_rfl), hO, h0⟩))
  refine aX aD 1 [] [(7, (eI (0 : Int)))] ?_
  refine cA 0 ?_
  refine eG [(0, (eL (eI) l0)), (1, (eI t1)), (5, (.sl true 0 (fun _ => .bad))), (6, (aE false)), (7, (eI (0 : Int)))] ?_
  refine CU (el := (fun _ => .bad)) 2 5 1 hO (by kernel_rfl) ?_
  intro lo20 H21 hO
  refine dY (fun T H => ∃ out5 : List Int, ∃ put6 : Bool, ∃ i7 : Int, ∃ lo8 : Nat, Has T [(0, (eL (eI) l0)), (1, (eI t1)), (5, (.msl 1 lo8 0 (List.length out5))), (6, (aE put6)), (7, (eI i7))] ∧ aI ⟨H0, [], []⟩ H [(lo8, 1, List.map (eI) out5)] ∧ xV l0 t1 out5 put6 i7 = some r) ?_ ⟨([] : List Int), false, (0 : Int), lo20, .eq (by kernel_rfl), hO, h0⟩
  clear hO h0
  rintro T H ⟨out5, put6, i7, lo8, hT, hO, h0⟩
  refine bD hT ?_
  clear hT
  unfold xV at h0
  obtain ⟨rr0, hl0, h0⟩ := aZ h0
  refine cR (by kernel_rfl) (fun (s : List Int × Bool × Int) T H => ∃ lo8 : Nat, Has T [(0, (eL (eI) l0)), (1, (eI t1)), (5, (.msl 1 lo8 0 (List.length s.1))), (6, (aE s.2.1)), (7, (eI s.2.2))] ∧ aI ⟨H0, [], []⟩ H [(lo8, 1, List.map (eI) s.1)]) hl0 ⟨lo8, .eq (by kernel_rfl), hO⟩ ?_
  clear hO
  rintro k0 s out1 T H ⟨lo8, hT, hO⟩ h1 ho0
  obtain ⟨out5, put6, i7⟩ := s
  replace h1 : jS l0 t1 out5 put6 i7 = some out1 := h1
  try dsimp only at hT
  refine bD hT ?_
  clear hT
  unfold jS at h1
  refine aL ?_
  refine aX aD 4 [] [(12, (aE (decide (i7 < (lN l0)))))] ?_
  refine bJ h1 (fun h1 => ?_) (fun h1 => ?_)
  · refine bK ?_
    refine bH [(0, (eL (eI) l0)), (1, (eI t1)), (5, (.msl 1 lo8 0 (List.length out5))), (6, (aE put6)), (7, (eI i7))] ?_
    refine aL ?_
    refine cA 1 ?_
    refine aL ?_
    refine aL ?_
    refine aW aD 6 ?_
    obtain ⟨c10, h1⟩ := bA h1
    refine oJ [0 ≤ i7 ∧ i7 < (lN l0)] ⟨c10, trivial⟩ ?_
    refine bZ [] [(20, (aE (decide ((gD l0 i7) = t1))))] ?_
    refine bJ h1 (fun h1 => ?_) (fun h1 => ?_)
    · refine aL ?_
      refine aW aD 2 ?_
      refine bG ?_
      refine eP [(4, (eL (eI) l0))] ?_
      replace hO := hO.pick (L' := []) [] (by decide) (by kernel_rfl)
      refine aG (aF (?_))
      refine bL ?_
      obtain rfl := oI h1
      obtain rfl : _ = rr0 := ho0
      replace h0 : some l0 = some r := h0
      obtain rfl := oI h0
      exact aG (aO (bE (aO (aO (bE (aO (Q_r hO)))))))
    refine bK ?_
    refine bH [(0, (eL (eI) l0)), (1, (eI t1)), (5, (.msl 1 lo8 0 (List.length out5))), (6, (aE put6)), (7, (eI i7))] ?_
    refine dP (fun T H => ∃ out5 : List Int, ∃ put6 : Bool, ∃ lo12 : Nat, Has T [(0, (eL (eI) l0)), (1, (eI t1)), (5, (.msl 1 lo12 0 (List.length out5))), (6, (aE put6)), (7, (eI i7))] ∧ aI ⟨H0, [], []⟩ H [(lo12, 1, List.map (eI) out5)] ∧ tE l0 t1 out5 put6 i7 = some out1) ?_ ?_
    · clear hO h1
      rintro T H ⟨out5, put6, lo12, hT, hO, h1⟩
      refine bD hT ?_
      clear hT
      unfold tE at h1
      refine aW aD 8 ?_
      obtain ⟨c13, h1⟩ := bA h1
      refine pZ 5 [0 ≤ i7 ∧ i7 < (lN l0)] ⟨c13, trivial⟩ ?_
      refine mR (xs := [(eI (gD l0 i7))]) (k := 1) (by kernel_rfl) (by kernel_rfl) ?_
      obtain ⟨c15, h1⟩ := bA h1
      refine pM (e := (eI)) out5 ([gD l0 i7]) 0 lo12 1 8 (eK [(eI (gD l0 i7))]) (fun lo14 => [(lo14, 1, List.map (eI) (out5 ++ ([gD l0 i7])))]) (by kernel_rfl) (by kernel_rfl) hO (by kernel_rfl) (by kernel_rfl) c15 (fun _ => by kernel_rfl) ?_
      intro lo14 H hO
      refine bG ?_
      refine eP [(0, (eL (eI) l0)), (1, (eI t1)), (5, (.msl 1 lo14 0 (List.length (out5 ++ ([gD l0 i7]))))), (6, (aE put6)), (7, (eI i7))] ?_
      refine aG (aY (aF (?_)))
      refine aW aD 3 ?_
      refine bG ?_
      exact aG (aF (⟨rfl, _, (oI h1).symm, _, .eq (by kernel_rfl), hO⟩))
    refine aL ?_
    refine aW aD 10 ?_
    obtain ⟨c16, h1⟩ := bA h1
    refine oJ [0 ≤ i7 ∧ i7 < (lN l0)] ⟨c16, trivial⟩ ?_
    refine bZ [] [(31, (aE ((decide (t1 < (gD l0 i7))) && (!put6))))] ?_
    refine bJ h1 (fun h1 => ?_) (fun h1 => ?_)
    · refine aL ?_
      refine aW aD 5 ?_
      refine bU 2 ?_
      refine mR (xs := [(eI t1)]) (k := 1) (by kernel_rfl) (by kernel_rfl) ?_
      obtain ⟨c19, h1⟩ := bA h1
      refine pM (e := (eI)) out5 ([t1]) 0 lo8 1 8 (eK [(eI t1)]) (fun lo18 => [(lo18, 1, List.map (eI) (out5 ++ ([t1])))]) (by kernel_rfl) (by kernel_rfl) hO (by kernel_rfl) (by kernel_rfl) c19 (fun _ => by kernel_rfl) ?_
      intro lo18 H hO
      refine bG ?_
      refine bZ [5, 6, 31] [(5, (.msl 1 lo18 0 (List.length (out5 ++ ([t1])))))] ?_
      refine aW aD 1 ?_
      refine bG ?_
      exact aG (aF (⟨rfl, _, _, _, .eq (by kernel_rfl), hO, h1⟩))
    refine bK ?_
    exact aG (aF (⟨rfl, _, _, _, .eq (by kernel_rfl), hO, h1⟩))
  refine eR 0 ?_
  obtain rfl := oI h1
  obtain rfl : _ = rr0 := ho0
  replace h0 : qJ t1 out5 put6 = some r := h0
  exact aG (aV (aV (bS (aF (⟨rfl, _, _, _, .eq (by kernel_rfl), hO, h0⟩)))))

theorem NM (f0 : (List aH)) (w1 : aT) (r : Int) (h0 : qT f0 w1 = some r) : dJ Try.prog 41 [(eL aK f0), (bB w1)] (eI r) := by
  intro H0
  refine dH Try.func41 ?_
  have hO := aI.start H0
  unfold qT at h0
  refine aL ?_
  refine aW aD 2 ?_
  refine gC 2 (bB w1) (by kernel_rfl) (by kernel_rfl) ?_
  refine bG ?_
  refine bZ [1] [(3, (.rp (bB w1)))] ?_
  refine aL ?_
  refine aW aD 5 ?_
  refine bU 3 ?_
  obtain ⟨x1, hx2, h0⟩ := aZ h0
  refine dQ (yC f0 w1.From _ hx2) hO ?_
  intro H hO
  refine bG ?_
  refine bZ [] [(5, (eI x1))] ?_
  refine dP (fun T H => ∃ n5 : Int, Has T [(5, (eI n5))] ∧ aI ⟨H0, [], []⟩ H [] ∧ sP n5 = some r) ?_ ?_
  · clear hO h0
    rintro T H ⟨n5, hT, hO, h0⟩
    refine bD hT ?_
    clear hT
    unfold sP at h0
    refine bV aD 2 [(4, (eI n5))] ?_
    refine bL ?_
    obtain rfl := oI h0
    exact aG (Q_r hO)
  refine aX aD 1 [] [(6, (eI (0 : Int)))] ?_
  refine cA 0 ?_
  refine eG [(0, (eL aK f0)), (3, (.rp (bB w1))), (5, (eI x1)), (6, (eI (0 : Int)))] ?_
  refine dY (fun T H => ∃ w3 : aT, ∃ n5 : Int, ∃ i6 : Int, Has T [(0, (eL aK f0)), (3, (.rp (bB w3))), (5, (eI n5)), (6, (eI i6))] ∧ aI ⟨H0, [], []⟩ H [] ∧ sX f0 w3 n5 i6 = some r) ?_ ⟨w1, x1, (0 : Int), .eq (by kernel_rfl), hO, h0⟩
  clear hO h0
  rintro T H ⟨w3, n5, i6, hT, hO, h0⟩
  refine bD hT ?_
  clear hT
  unfold sX at h0
  obtain ⟨rr0, hl0, h0⟩ := aZ h0
  refine cR (by kernel_rfl) (fun (s : Int × Int) T H => Has T [(0, (eL aK f0)), (3, (.rp (bB w3))), (5, (eI s.1)), (6, (eI s.2))] ∧ aI ⟨H0, [], []⟩ H []) hl0 ⟨.eq (by kernel_rfl), hO⟩ ?_
  clear hO
  rintro k0 s out1 T H ⟨hT, hO⟩ h1 ho0
  obtain ⟨n5, i6⟩ := s
  replace h1 : nO f0 w3 n5 i6 = some out1 := h1
  try dsimp only at hT
  refine bD hT ?_
  clear hT
  unfold nO at h1
  refine aL ?_
  refine aX aD 4 [] [(14, (aE (decide (i6 < (lN f0)))))] ?_
  refine bJ h1 (fun h1 => ?_) (fun h1 => ?_)
  · refine bK ?_
    refine bH [(0, (eL aK f0)), (3, (.rp (bB w3))), (5, (eI n5)), (6, (eI i6))] ?_
    refine dP (fun T H => ∃ n5 : Int, Has T [(0, (eL aK f0)), (3, (.rp (bB w3))), (5, (eI n5)), (6, (eI i6))] ∧ aI ⟨H0, [], []⟩ H [] ∧ pX f0 w3 n5 i6 = some out1) ?_ ?_
    · clear hO h1
      rintro T H ⟨n5, hT, hO, h1⟩
      refine bD hT ?_
      clear hT
      unfold pX at h1
      refine aW aD 3 ?_
      refine bG ?_
      exact aG (aF (⟨rfl, _, (oI h1).symm, .eq (by kernel_rfl), hO⟩))
    refine cA 1 ?_
    refine aL ?_
    obtain ⟨c5, h1⟩ := bA h1
    obtain ⟨c6, h1⟩ := bA h1
    obtain ⟨c7, h1⟩ := bA h1
    refine eS (eU [21, 23, 30, 32, 40]) aD 26 ?_
    refine mB (K := fun T H => Has (lift T) [(0, (eL aK f0)), (3, (.rp (bB w3))), (5, (eI n5)), (6, (eI i6)), (42, (aE (((decide (w3.From < ((gD f0 i6).At))) && (decide (((gD f0 i6).At) < w3.To))) && (decide ((0 : Int) < ((gD f0 i6).Net))))))] ∧ aI ⟨H0, [], []⟩ H []) ?_ ?_
    · refine cI 9 [0 ≤ i6 ∧ i6 < (lN f0)] ⟨c5, trivial⟩ ?_
      refine kB (t := 25) (e := decide (w3.From < ((gD f0 i6).At))) (by kernel_rfl) (fun hg8 => ?_) (fun hg8 => ?_)
      · refine cI 19 [0 ≤ i6 ∧ i6 < (lN f0)] ⟨(c6 hg8), trivial⟩ ?_
        refine kB (t := 35) (e := decide (((gD f0 i6).At) < w3.To)) (by kernel_rfl) (fun hg9 => ?_) (fun hg9 => ?_)
        · refine AS (Ds := [0 ≤ i6 ∧ i6 < (lN f0)]) (by kernel_rfl) ⟨(c7 (gY hg8 hg9)), trivial⟩ ?_
          exact ⟨⟨[(0, (eL aK f0)), (3, (.rp (bB w3))), (5, (eI n5)), (6, (eI i6)), (42, (aE (decide ((0 : Int) < ((gD f0 i6).Net)))))], by kernel_rfl, rfl, ⟨aN.refl _, aN.refl _, aN.refl _, aN.refl _, aN.eq (congrArg aE (gY (gY hg8 hg9) rfl).symm), trivial⟩⟩, hO⟩
        refine gK ?_
        exact ⟨⟨[(0, (eL aK f0)), (3, (.rp (bB w3))), (5, (eI n5)), (6, (eI i6)), (42, (aE false))], by kernel_rfl, rfl, ⟨aN.refl _, aN.refl _, aN.refl _, aN.refl _, aN.eq (congrArg aE (gY (gY hg8 hg9) rfl).symm), trivial⟩⟩, hO⟩
      refine gK ?_
      exact ⟨⟨[(0, (eL aK f0)), (3, (.rp (bB w3))), (5, (eI n5)), (6, (eI i6)), (42, (aE false))], by kernel_rfl, rfl, ⟨aN.refl _, aN.refl _, aN.refl _, aN.refl _, aN.eq (congrArg aE (gY (gY hg8 rfl) rfl).symm), trivial⟩⟩, hO⟩
    · rintro T H ⟨hT, hO⟩
      refine dS hT ?_
      clear hT
      refine aG (aF ?_)
      refine bJ h1 (fun h1 => ?_) (fun h1 => ?_)
      · refine aW aD 8 ?_
        obtain ⟨c11, h1⟩ := bA h1
        refine oJ [0 ≤ i6 ∧ i6 < (lN f0)] ⟨c11, trivial⟩ ?_
        exact aG (aY (aF (⟨rfl, _, .eq (by kernel_rfl), hO, h1⟩)))
      refine bK ?_
      exact aG (aY (aF (⟨rfl, _, .eq (by kernel_rfl), hO, h1⟩)))
  refine eR 0 ?_
  obtain rfl := oI h1
  obtain rfl : _ = rr0 := ho0
  replace h0 : sP n5 = some r := h0
  exact aG (aV (aV (bS (aF (⟨rfl, _, .eq (by kernel_rfl), hO, h0⟩)))))

theorem SA (l0 : (List aR)) (bT : Int) (hop2 : Int) (bN : Int) (bI : Int) (r : ((List aP) × Int)) (h0 : tQ l0 bT hop2 bN bI = some r) : dJ Try.prog 17 [(eL aQ l0), (eI bT), (eI hop2), (eI bN), (eI bI)] (.tup [(eL aS r.1), (eI r.2)]) := by
  intro H0
  refine dH Try.func17 ?_
  have hO := aI.start H0
  unfold tQ at h0
  refine aX aD 2 [] [] ?_
  refine aL ?_
  refine aL ?_
  refine aW aD 9 ?_
  refine bU 2 ?_
  obtain ⟨x1, hx2, h0⟩ := aZ h0
  refine dQ (KC bT hop2 _ hx2) hO ?_
  intro H hO
  refine bU 6 ?_
  obtain ⟨x4, hx5, h0⟩ := aZ h0
  refine lX [(29, false)] 35 [(eL aQ l0)] (aE x4) (!(!x1)) (by kernel_rfl) (by kernel_rfl) (by kernel_rfl) (fun hb6 => (JV l0 _ (gV hx5 hb6))) hO ?_
  intro H hO
  refine bG ?_
  refine bZ [] [(33, (aE ((!x1) || (!x4))))] ?_
  refine bJ h0 (fun h0 => ?_) (fun h0 => ?_)
  · refine bV aD 2 [(10, (.sl true 0 (fun _ => .bad))), (11, (eI (2 : Int)))] ?_
    refine bL ?_
    refine dS (l := [(10, (eL aS ([]))), (11, (eI (2 : Int)))]) ⟨[(10, (.sl true 0 (fun _ => .bad))), (11, (eI (2 : Int)))], by kernel_rfl, rfl, ⟨jT, aN.refl _, trivial⟩⟩ ?_
    obtain rfl := oI h0
    exact aG (aO (Q_r hO))
  refine bK ?_
  refine bH [(0, (eL aQ l0)), (1, (eI bT)), (2, (eI hop2)), (3, (eI bN)), (4, (eI bI))] ?_
  refine aL ?_
  refine aL ?_
  refine aW aD 3 ?_
  refine bU 1 ?_
  obtain ⟨x8, hx9, h0⟩ := aZ h0
  refine dQ (RT l0 _ hx9) hO ?_
  intro H hO
  refine bG ?_
  refine bZ [] [(36, (aE (!x8)))] ?_
  refine bJ h0 (fun h0 => ?_) (fun h0 => ?_)
  · refine bV aD 2 [(10, (.sl true 0 (fun _ => .bad))), (11, (eI (20 : Int)))] ?_
    refine bL ?_
    refine dS (l := [(10, (eL aS ([]))), (11, (eI (20 : Int)))]) ⟨[(10, (.sl true 0 (fun _ => .bad))), (11, (eI (20 : Int)))], by kernel_rfl, rfl, ⟨jT, aN.refl _, trivial⟩⟩ ?_
    obtain rfl := oI h0
    exact aG (aO (Q_r hO))
  refine bK ?_
  refine bH [(0, (eL aQ l0)), (1, (eI bT)), (2, (eI hop2)), (3, (eI bN)), (4, (eI bI))] ?_
  refine aL ?_
  refine aL ?_
  refine aW aD 8 ?_
  refine bU 1 ?_
  obtain ⟨x12, hx13, h0⟩ := aZ h0
  refine dQ (zN bN _ hx13) hO ?_
  intro H hO
  refine bU 5 ?_
  obtain ⟨x15, hx16, h0⟩ := aZ h0
  refine lX [(40, false)] 28 [(eI bI)] (aE x15) (!(!x12)) (by kernel_rfl) (by kernel_rfl) (by kernel_rfl) (fun hb17 => (zN bI _ (gV hx16 hb17))) hO ?_
  intro H hO
  refine bG ?_
  refine bZ [] [(44, (aE ((!x12) || (!x15))))] ?_
  refine bJ h0 (fun h0 => ?_) (fun h0 => ?_)
  · refine bV aD 2 [(10, (.sl true 0 (fun _ => .bad))), (11, (eI (13 : Int)))] ?_
    refine bL ?_
    refine dS (l := [(10, (eL aS ([]))), (11, (eI (13 : Int)))]) ⟨[(10, (.sl true 0 (fun _ => .bad))), (11, (eI (13 : Int)))], by kernel_rfl, rfl, ⟨jT, aN.refl _, trivial⟩⟩ ?_
    obtain rfl := oI h0
    exact aG (aO (Q_r hO))
  refine bK ?_
  refine bH [(0, (eL aQ l0)), (1, (eI bT)), (2, (eI hop2)), (3, (eI bN)), (4, (eI bI))] ?_
  refine aL ?_
  refine aW aD 2 ?_
  refine mR (xs := []) (k := 1) (by kernel_rfl) (by kernel_rfl) ?_
  refine bG ?_
  refine bZ [] [(12, (.sl true 0 (fun _ => .bad)))] ?_
  refine aL ?_
  refine aW aD 3 ?_
  refine bU 1 ?_
  obtain ⟨x19, hx20, h0⟩ := aZ h0
  refine dQ (DE l0 _ hx20) hO ?_
  intro H hO
  refine bG ?_
  refine bZ [] [(13, (eL (eL aB) x19))] ?_
  refine dP (fun T H => ∃ bC : (List Int), ∃ bO : (List (List aC)), Has T [(0, (eL aQ l0)), (1, (eI bT)), (12, (eL (eI) bC)), (13, (eL (eL aB) bO))] ∧ aI ⟨H0, [], []⟩ H [] ∧ rR l0 bT bC bO = some r) ?_ ?_
  · clear hO h0
    rintro T H ⟨bC, bO, hT, hO, h0⟩
    refine bD hT ?_
    clear hT
    unfold rR at h0
    refine aL ?_
    refine aW aD 2 ?_
    refine mR (xs := []) (k := 3) (by kernel_rfl) (by kernel_rfl) ?_
    refine bG ?_
    refine bZ [] [(20, (.sl true 0 (fun _ => .bad)))] ?_
    refine dP (fun T H => ∃ cX : List aP, ∃ lo22 : Nat, Has T [(20, (.msl 3 lo22 0 (List.length cX)))] ∧ aI ⟨H0, [], []⟩ H [(lo22, 3, List.map aS cX)] ∧ wT cX = some r) ?_ ?_
    · clear hO h0
      rintro T H ⟨cX, lo22, hT, hO, h0⟩
      refine bD hT ?_
      clear hT
      unfold wT at h0
      refine bV aD 3 [(10, (.msl 3 lo22 0 (List.length cX))), (11, (eI (0 : Int)))] ?_
      refine bL ?_
      refine eP [(10, (.msl 3 lo22 0 (List.length cX))), (11, (eI (0 : Int)))] ?_
      refine sG (en := aS) cX 0 0 10 3 lo22 (List.length cX) hO (by kernel_rfl) (by kernel_rfl) (by kernel_rfl) (L' := []) (by kernel_rfl) ?_
      intro H23 hO
      obtain rfl := oI h0
      exact aG (Q_r hO)
    refine aX aD 1 [] [(21, (eI (0 : Int)))] ?_
    refine cA 6 ?_
    refine eG [(0, (eL aQ l0)), (1, (eI bT)), (12, (eL (eI) bC)), (13, (eL (eL aB) bO)), (20, (.sl true 0 (fun _ => .bad))), (21, (eI (0 : Int)))] ?_
    refine CU (el := (fun _ => .bad)) 4 20 3 hO (by kernel_rfl) ?_
    intro lo57 H58 hO
    refine dY (fun T H => ∃ cX : List aP, ∃ k21 : Int, ∃ lo25 : Nat, Has T [(0, (eL aQ l0)), (1, (eI bT)), (12, (eL (eI) bC)), (13, (eL (eL aB) bO)), (20, (.msl 3 lo25 0 (List.length cX))), (21, (eI k21))] ∧ aI ⟨H0, [], []⟩ H [(lo25, 3, List.map aS cX)] ∧ wO l0 bT bC bO cX k21 = some r) ?_ ⟨([] : List aP), (0 : Int), lo57, .eq (by kernel_rfl), hO, h0⟩
    clear hO h0
    rintro T H ⟨cX, k21, lo25, hT, hO, h0⟩
    refine bD hT ?_
    clear hT
    unfold wO at h0
    obtain ⟨rr0, hl0, h0⟩ := aZ h0
    refine cR (by kernel_rfl) (fun (s : List aP × Int) T H => ∃ lo25 : Nat, Has T [(0, (eL aQ l0)), (1, (eI bT)), (12, (eL (eI) bC)), (13, (eL (eL aB) bO)), (20, (.msl 3 lo25 0 (List.length s.1))), (21, (eI s.2))] ∧ aI ⟨H0, [], []⟩ H [(lo25, 3, List.map aS s.1)]) hl0 ⟨lo25, .eq (by kernel_rfl), hO⟩ ?_
    clear hO
    rintro k0 s out1 T H ⟨lo25, hT, hO⟩ h1 ho0
    obtain ⟨cX, k21⟩ := s
    replace h1 : nP l0 bT bC bO cX k21 = some out1 := h1
    try dsimp only at hT
    refine bD hT ?_
    clear hT
    unfold nP at h1
    refine aL ?_
    refine aX aD 4 [] [(101, (aE (decide (k21 < (lN bC)))))] ?_
    refine bJ h1 (fun h1 => ?_) (fun h1 => ?_)
    · refine bK ?_
      refine bH [(0, (eL aQ l0)), (1, (eI bT)), (12, (eL (eI) bC)), (13, (eL (eL aB) bO)), (20, (.msl 3 lo25 0 (List.length cX))), (21, (eI k21))] ?_
      refine dP (fun T H => ∃ cX : List aP, ∃ lo27 : Nat, Has T [(0, (eL aQ l0)), (1, (eI bT)), (12, (eL (eI) bC)), (13, (eL (eL aB) bO)), (20, (.msl 3 lo27 0 (List.length cX))), (21, (eI k21))] ∧ aI ⟨H0, [], []⟩ H [(lo27, 3, List.map aS cX)] ∧ wY l0 bT bC bO cX k21 = some out1) ?_ ?_
      · clear hO h1
        rintro T H ⟨cX, lo27, hT, hO, h1⟩
        refine bD hT ?_
        clear hT
        unfold wY at h1
        refine aW aD 3 ?_
        refine bG ?_
        exact aG (aF (⟨rfl, _, (oI h1).symm, _, .eq (by kernel_rfl), hO⟩))
      refine cA 7 ?_
      refine aL ?_
      refine eS (eU [107, 112, 113, 22]) aD 14 ?_
      obtain ⟨c28, h1⟩ := bA h1
      obtain ⟨c29, h1⟩ := bA h1
      refine cI 9 [0 ≤ k21 ∧ k21 < (lN bC), 0 ≤ k21 ∧ k21 < (lN bC)] ⟨c28, c29, trivial⟩ ?_
      obtain ⟨x30, hx31, h1⟩ := aZ h1
      refine yL (KK bT (gD bC k21) _ hx31) hO ?_
      intro H hO
      refine jZ 12 ?_
      refine aCg 3 (.agg [(eI 0), (eI 0), (.sl true 0 (fun _ => .bad))]) (aS (aP.mk (aT.mk 0 0) ([]))) (TP (xs := [(eI 0), (eI 0), (.sl true 0 (fun _ => .bad))]) (ys := [(eI 0), (eI 0), (eL cE ([]))]) ⟨aN.refl _, aN.refl _, jT, trivial⟩) hO ?_
      intro lo33 H hO
      refine kV 1 lo33 3 0 (aS (aP.mk (aT.mk 0 0) ([]))) (.agg [(eI ((aT.mk (gD bC k21) x30).From)), (eI ((aT.mk (gD bC k21) x30).To)), (.sl true 0 (fun _ => .bad))]) [(aS (aP.mk (aT.mk 0 0) ([])))] [(lo25, 3, List.map aS cX), (lo33, 3, [(.agg [(eI ((aT.mk (gD bC k21) x30).From)), (eI ((aT.mk (gD bC k21) x30).To)), (.sl true 0 (fun _ => .bad))])])] hO rfl (by kernel_rfl) ?_
      intro H hO
      refine nJ (by kernel_rfl) ?_
      refine aAU 1 3 lo33 2 2 [(eI ((aT.mk (gD bC k21) x30).From)), (eI ((aT.mk (gD bC k21) x30).To)), (.sl true 0 (fun _ => .bad))] (fun _ => .bad) (fun lo34 => [(lo25, 3, List.map aS cX), (lo33, 3, [(.agg [(eI ((aT.mk (gD bC k21) x30).From)), (eI ((aT.mk (gD bC k21) x30).To)), (.msl 2 lo34 0 0)])]), (lo34, 2, List.map cE ([] : List cP))]) hO (by kernel_rfl) (by kernel_rfl) (fun _ => by kernel_rfl) ?_
      intro lo34 H hO
      replace hO : aI ⟨H0, [], []⟩ H [(lo25, 3, List.map aS cX), (lo33, 3, [(.agg [(eI ((aP.mk (aT.mk (gD bC k21) x30) ([])).Span.From)), (eI ((aP.mk (aT.mk (gD bC k21) x30) ([])).Span.To)), (.msl 2 lo34 0 (List.length ([] : List cP)))])]), (lo34, 2, List.map cE ([] : List cP))] := hO
      refine bH [(0, (eL aQ l0)), (1, (eI bT)), (12, (eL (eI) bC)), (13, (eL (eL aB) bO)), (20, (.msl 3 lo25 0 (List.length cX))), (21, (eI k21)), (22, (.lp lo33 0 0))] ?_
      refine dP (fun T H => ∃ cX : List aP, ∃ p22 : aP, ∃ lo35 : Nat, ∃ lo36 : Nat, Has T [(0, (eL aQ l0)), (1, (eI bT)), (12, (eL (eI) bC)), (13, (eL (eL aB) bO)), (20, (.msl 3 lo35 0 (List.length cX))), (21, (eI k21)), (22, (.lp lo33 0 0))] ∧ aI ⟨H0, [], []⟩ H [(lo35, 3, List.map aS cX), (lo33, 3, [(.agg [(eI p22.Span.From), (eI p22.Span.To), (.msl 2 lo36 0 (List.length p22.Rows))])]), (lo36, 2, List.map cE p22.Rows)] ∧ rT l0 bT bC bO cX k21 p22 = some out1) ?_ ?_
      · clear hO h1
        rintro T H ⟨cX, p22, lo35, lo36, hT, hO, h1⟩
        refine bD hT ?_
        clear hT
        unfold rT at h1
        refine KF (e := cE) p22.Rows 1 2 3 2 lo33 lo36 (List.length p22.Rows) 2 [(eI p22.Span.From), (eI p22.Span.To), (.msl 2 lo36 0 (List.length p22.Rows))] [(lo35, 3, List.map aS cX), (lo33, 3, [(aS p22)])] hO (by kernel_rfl) (by kernel_rfl) (by kernel_rfl) (by kernel_rfl) (by kernel_rfl) (by kernel_rfl) ?_
        intro H hO
        refine aW aD 5 ?_
        refine bU 1 ?_
        refine oQ 1 lo33 3 0 (aS p22) (aS p22) [(aS p22)] hO rfl ?_
        refine mR (xs := [(aS p22)]) (k := 3) (by kernel_rfl) (by kernel_rfl) ?_
        obtain ⟨c38, h1⟩ := bA h1
        refine pM (e := aS) cX ([p22]) 0 lo35 3 40 (eK [(aS p22)]) (fun lo37 => [(lo37, 3, List.map aS (cX ++ ([p22]))), (lo33, 3, [(aS p22)])]) (by kernel_rfl) (by kernel_rfl) hO (by kernel_rfl) (by kernel_rfl) c38 (fun _ => by kernel_rfl) ?_
        intro lo37 H hO
        refine bG ?_
        replace hO := hO.pick (L' := [(lo37, 3, List.map aS (cX ++ ([p22])))]) [0] (by decide) (by kernel_rfl)
        exact aG (aY (aF (⟨rfl, _, _, .eq (by kernel_rfl), hO, h1⟩)))
      refine aX aD 1 [] [(23, (eI (0 : Int)))] ?_
      refine cA 8 ?_
      refine eG [(0, (eL aQ l0)), (1, (eI bT)), (12, (eL (eI) bC)), (13, (eL (eL aB) bO)), (20, (.msl 3 lo25 0 (List.length cX))), (21, (eI k21)), (22, (.lp lo33 0 0)), (23, (eI (0 : Int)))] ?_
      refine dY (fun T H => ∃ cX : List aP, ∃ p22 : aP, ∃ i23 : Int, ∃ lo41 : Nat, ∃ lo42 : Nat, Has T [(0, (eL aQ l0)), (1, (eI bT)), (12, (eL (eI) bC)), (13, (eL (eL aB) bO)), (20, (.msl 3 lo41 0 (List.length cX))), (21, (eI k21)), (22, (.lp lo33 0 0)), (23, (eI i23))] ∧ aI ⟨H0, [], []⟩ H [(lo41, 3, List.map aS cX), (lo33, 3, [(.agg [(eI p22.Span.From), (eI p22.Span.To), (.msl 2 lo42 0 (List.length p22.Rows))])]), (lo42, 2, List.map cE p22.Rows)] ∧ wW l0 bT bC bO cX k21 p22 i23 = some out1) ?_ ⟨cX, aP.mk (aT.mk (gD bC k21) x30) ([]), (0 : Int), lo25, lo34, .eq (by kernel_rfl), hO, h1⟩
      clear hO h1
      rintro T H ⟨cX, p22, i23, lo41, lo42, hT, hO, h1⟩
      refine bD hT ?_
      clear hT
      unfold wW at h1
      obtain ⟨rr1, hl1, h1⟩ := aZ h1
      refine cR (by kernel_rfl) (fun (s : List aP × aP × Int) T H => ∃ lo41 : Nat, ∃ lo42 : Nat, Has T [(0, (eL aQ l0)), (1, (eI bT)), (12, (eL (eI) bC)), (13, (eL (eL aB) bO)), (20, (.msl 3 lo41 0 (List.length s.1))), (21, (eI k21)), (22, (.lp lo33 0 0)), (23, (eI s.2.2))] ∧ aI ⟨H0, [], []⟩ H [(lo41, 3, List.map aS s.1), (lo33, 3, [(.agg [(eI s.2.1.Span.From), (eI s.2.1.Span.To), (.msl 2 lo42 0 (List.length s.2.1.Rows))])]), (lo42, 2, List.map cE s.2.1.Rows)]) hl1 ⟨lo41, lo42, .eq (by kernel_rfl), hO⟩ ?_
      clear hO
      rintro k1 s out2 T H ⟨lo41, lo42, hT, hO⟩ h2 ho1
      obtain ⟨cX, p22, i23⟩ := s
      replace h2 : mO l0 bT bC bO k21 cX p22 i23 = some out2 := h2
      try dsimp only at hT
      refine bD hT ?_
      clear hT
      unfold mO at h2
      refine aL ?_
      refine aX aD 4 [] [(119, (aE (decide (i23 < (lN bO)))))] ?_
      refine bJ h2 (fun h2 => ?_) (fun h2 => ?_)
      · refine bK ?_
        refine bH [(0, (eL aQ l0)), (1, (eI bT)), (12, (eL (eI) bC)), (13, (eL (eL aB) bO)), (20, (.msl 3 lo41 0 (List.length cX))), (21, (eI k21)), (22, (.lp lo33 0 0)), (23, (eI i23))] ?_
        refine dP (fun T H => ∃ cX : List aP, ∃ p22 : aP, ∃ lo44 : Nat, ∃ lo45 : Nat, Has T [(0, (eL aQ l0)), (1, (eI bT)), (12, (eL (eI) bC)), (13, (eL (eL aB) bO)), (20, (.msl 3 lo44 0 (List.length cX))), (21, (eI k21)), (22, (.lp lo33 0 0)), (23, (eI i23))] ∧ aI ⟨H0, [], []⟩ H [(lo44, 3, List.map aS cX), (lo33, 3, [(.agg [(eI p22.Span.From), (eI p22.Span.To), (.msl 2 lo45 0 (List.length p22.Rows))])]), (lo45, 2, List.map cE p22.Rows)] ∧ pN l0 bT bC bO cX k21 p22 i23 = some out2) ?_ ?_
        · clear hO h2
          rintro T H ⟨cX, p22, lo44, lo45, hT, hO, h2⟩
          refine bD hT ?_
          clear hT
          unfold pN at h2
          refine aW aD 3 ?_
          refine bG ?_
          exact aG (aF (⟨rfl, _, (oI h2).symm, _, _, .eq (by kernel_rfl), hO⟩))
        refine cA 9 ?_
        refine aL ?_
        refine eS (eU [126, 127, 122, 130]) aD 10 ?_
        obtain ⟨c46, h2⟩ := bA h2
        refine cI 5 [0 ≤ i23 ∧ i23 < (lN bO)] ⟨c46, trivial⟩ ?_
        obtain ⟨x47, hx48, h2⟩ := aZ h2
        refine yL (xZ l0 (gD bO i23) _ hx48) hO ?_
        intro H hO
        refine jZ 7 ?_
        refine hU 1 lo33 3 0 (.agg [(eI p22.Span.From), (eI p22.Span.To), (.msl 2 lo42 0 (List.length p22.Rows))]) (bB p22.Span) [(.agg [(eI p22.Span.From), (eI p22.Span.To), (.msl 2 lo42 0 (List.length p22.Rows))])] hO rfl ?_
        obtain ⟨x50, hx51, h2⟩ := aZ h2
        refine yL (NM x47 p22.Span _ hx51) hO ?_
        intro H hO
        refine gK ?_
        refine bZ [] [(24, (eI x50))] ?_
        refine aX aD 2 [] [(132, (aE (decide ((0 : Int) < x50))))] ?_
        refine bJ h2 (fun h2 => ?_) (fun h2 => ?_)
        · refine eS (eU [138, 141]) aD 12 ?_
          refine jZ 1 ?_
          refine hU 1 lo33 3 0 (.agg [(eI p22.Span.From), (eI p22.Span.To), (.msl 2 lo42 0 (List.length p22.Rows))]) (.msl 2 lo42 0 (List.length p22.Rows)) [(.agg [(eI p22.Span.From), (eI p22.Span.To), (.msl 2 lo42 0 (List.length p22.Rows))])] hO rfl ?_
          obtain ⟨c54, h2⟩ := bA h2
          refine cI 8 [0 ≤ i23 ∧ i23 < (lN bO)] ⟨c54, trivial⟩ ?_
          refine SH (xs := [(cE (cP.mk (gD bO i23) x50))]) (k := 2) (by kernel_rfl) (by kernel_rfl) ?_
          obtain ⟨c56, h2⟩ := bA h2
          refine JB (e := cE) p22.Rows ([cP.mk (gD bO i23) x50]) 2 lo42 2 32 (eK [(cE (cP.mk (gD bO i23) x50))]) (fun lo55 => [(lo41, 3, List.map aS cX), (lo33, 3, [(.agg [(eI p22.Span.From), (eI p22.Span.To), (.msl 2 lo42 0 (List.length p22.Rows))])]), (lo55, 2, List.map cE (p22.Rows ++ ([cP.mk (gD bO i23) x50])))]) (by kernel_rfl) (by kernel_rfl) hO (by kernel_rfl) (by kernel_rfl) c56 (fun _ => by kernel_rfl) ?_
          intro lo55 H hO
          refine jZ 11 ?_
          refine kV 1 lo33 3 0 (.agg [(eI p22.Span.From), (eI p22.Span.To), (.msl 2 lo42 0 (List.length p22.Rows))]) (.agg [(eI ((aP.mk p22.Span (p22.Rows ++ ([cP.mk (gD bO i23) x50]))).Span.From)), (eI ((aP.mk p22.Span (p22.Rows ++ ([cP.mk (gD bO i23) x50]))).Span.To)), (.msl 2 lo55 0 (List.length (p22.Rows ++ ([cP.mk (gD bO i23) x50]))))]) [(.agg [(eI p22.Span.From), (eI p22.Span.To), (.msl 2 lo42 0 (List.length p22.Rows))])] [(lo41, 3, List.map aS cX), (lo33, 3, [(.agg [(eI ((aP.mk p22.Span (p22.Rows ++ ([cP.mk (gD bO i23) x50]))).Span.From)), (eI ((aP.mk p22.Span (p22.Rows ++ ([cP.mk (gD bO i23) x50]))).Span.To)), (.msl 2 lo55 0 (List.length (p22.Rows ++ ([cP.mk (gD bO i23) x50]))))])]), (lo55, 2, List.map cE (p22.Rows ++ ([cP.mk (gD bO i23) x50])))] hO rfl (by kernel_rfl) ?_
          intro H hO
          refine nJ (by kernel_rfl) ?_
          exact aG (aY (aF (⟨rfl, _, _, _, _, .eq (by kernel_rfl), hO, h2⟩)))
        refine bK ?_
        exact aG (aY (aF (⟨rfl, _, _, _, _, .eq (by kernel_rfl), hO, h2⟩)))
      refine eR 8 ?_
      obtain rfl := oI h2
      obtain rfl : _ = rr1 := ho1
      replace h1 : rT l0 bT bC bO cX k21 p22 = some out1 := h1
      exact aG (aV (aV (bS (aF (⟨rfl, _, _, _, _, .eq (by kernel_rfl), hO, h1⟩)))))
    refine eR 6 ?_
    obtain rfl := oI h1
    obtain rfl : _ = rr0 := ho0
    replace h0 : wT cX = some r := h0
    exact aG (aV (aV (bS (aF (⟨rfl, _, _, .eq (by kernel_rfl), hO, h0⟩)))))
  refine aX aD 1 [] [(14, (eI (0 : Int)))] ?_
  refine cA 0 ?_
  refine bD (l := [(0, (eL aQ l0)), (1, (eI bT)), (2, (eI hop2)), (3, (eI bN)), (4, (eI bI)), (12, (eL (eI) ([]))), (13, (eL (eL aB) x19)), (14, (eI (0 : Int)))]) ⟨[(0, (eL aQ l0)), (1, (eI bT)), (2, (eI hop2)), (3, (eI bN)), (4, (eI bI)), (12, (.sl true 0 (fun _ => .bad))), (13, (eL (eL aB) x19)), (14, (eI (0 : Int)))], by kernel_rfl, rfl, ⟨aN.refl _, aN.refl _, aN.refl _, aN.refl _, aN.refl _, jT, aN.refl _, aN.refl _, trivial⟩⟩ ?_
  refine dY (fun T H => ∃ bC : (List Int), ∃ bO : (List (List aC)), ∃ i14 : Int, Has T [(0, (eL aQ l0)), (1, (eI bT)), (2, (eI hop2)), (3, (eI bN)), (4, (eI bI)), (12, (eL (eI) bC)), (13, (eL (eL aB) bO)), (14, (eI i14))] ∧ aI ⟨H0, [], []⟩ H [] ∧ wQ l0 bT hop2 bN bI bC bO i14 = some r) ?_ ⟨[], x19, (0 : Int), .eq (by kernel_rfl), hO, h0⟩
  clear hO h0
  rintro T H ⟨bC, bO, i14, hT, hO, h0⟩
  refine bD hT ?_
  clear hT
  unfold wQ at h0
  obtain ⟨rr0, hl0, h0⟩ := aZ h0
  refine cR (by kernel_rfl) (fun (s : (List Int) × Int) T H => Has T [(0, (eL aQ l0)), (1, (eI bT)), (2, (eI hop2)), (3, (eI bN)), (4, (eI bI)), (12, (eL (eI) s.1)), (13, (eL (eL aB) bO)), (14, (eI s.2))] ∧ aI ⟨H0, [], []⟩ H []) hl0 ⟨.eq (by kernel_rfl), hO⟩ ?_
  clear hO
  rintro k0 s out1 T H ⟨hT, hO⟩ h1 ho0
  obtain ⟨bC, i14⟩ := s
  replace h1 : nT l0 bT hop2 bN bI bO bC i14 = some out1 := h1
  try dsimp only at hT
  refine bD hT ?_
  clear hT
  unfold nT at h1
  refine aL ?_
  refine aX aD 4 [] [(51, (aE (decide (i14 < (lN bO)))))] ?_
  refine bJ h1 (fun h1 => ?_) (fun h1 => ?_)
  · refine bK ?_
    refine bH [(0, (eL aQ l0)), (1, (eI bT)), (2, (eI hop2)), (3, (eI bN)), (4, (eI bI)), (12, (eL (eI) bC)), (13, (eL (eL aB) bO)), (14, (eI i14))] ?_
    refine dP (fun T H => ∃ bC : (List Int), Has T [(0, (eL aQ l0)), (1, (eI bT)), (2, (eI hop2)), (3, (eI bN)), (4, (eI bI)), (12, (eL (eI) bC)), (13, (eL (eL aB) bO)), (14, (eI i14))] ∧ aI ⟨H0, [], []⟩ H [] ∧ rM l0 bT hop2 bN bI bC bO i14 = some out1) ?_ ?_
    · clear hO h1
      rintro T H ⟨bC, hT, hO, h1⟩
      refine bD hT ?_
      clear hT
      unfold rM at h1
      refine aW aD 3 ?_
      refine bG ?_
      exact aG (aF (⟨rfl, _, (oI h1).symm, .eq (by kernel_rfl), hO⟩))
    refine cA 1 ?_
    refine aL ?_
    refine aW aD 8 ?_
    obtain ⟨c61, h1⟩ := bA h1
    refine pZ 5 [0 ≤ i14 ∧ i14 < (lN bO)] ⟨c61, trivial⟩ ?_
    obtain ⟨x62, hx63, h1⟩ := aZ h1
    refine dQ (xZ l0 (gD bO i14) _ hx63) hO ?_
    intro H hO
    obtain ⟨x65, hx66, h1⟩ := aZ h1
    refine dQ (RL x62 _ hx66) hO ?_
    intro H hO
    refine bG ?_
    refine bZ [] [(15, (eL bB x65))] ?_
    refine aX aD 1 [] [(16, (eI (0 : Int)))] ?_
    refine cA 2 ?_
    refine eG [(0, (eL aQ l0)), (1, (eI bT)), (2, (eI hop2)), (3, (eI bN)), (4, (eI bI)), (12, (eL (eI) bC)), (13, (eL (eL aB) bO)), (14, (eI i14)), (15, (eL bB x65)), (16, (eI (0 : Int)))] ?_
    refine dY (fun T H => ∃ bC : (List Int), ∃ s15 : (List aT), ∃ k16 : Int, Has T [(0, (eL aQ l0)), (1, (eI bT)), (2, (eI hop2)), (3, (eI bN)), (4, (eI bI)), (12, (eL (eI) bC)), (13, (eL (eL aB) bO)), (14, (eI i14)), (15, (eL bB s15)), (16, (eI k16))] ∧ aI ⟨H0, [], []⟩ H [] ∧ uO l0 bT hop2 bN bI bC bO i14 s15 k16 = some out1) ?_ ⟨bC, x65, (0 : Int), .eq (by kernel_rfl), hO, h1⟩
    clear hO h1
    rintro T H ⟨bC, s15, k16, hT, hO, h1⟩
    refine bD hT ?_
    clear hT
    unfold uO at h1
    obtain ⟨rr1, hl1, h1⟩ := aZ h1
    refine cR (by kernel_rfl) (fun (s : (List Int) × Int) T H => Has T [(0, (eL aQ l0)), (1, (eI bT)), (2, (eI hop2)), (3, (eI bN)), (4, (eI bI)), (12, (eL (eI) s.1)), (13, (eL (eL aB) bO)), (14, (eI i14)), (15, (eL bB s15)), (16, (eI s.2))] ∧ aI ⟨H0, [], []⟩ H []) hl1 ⟨.eq (by kernel_rfl), hO⟩ ?_
    clear hO
    rintro k1 s out2 T H ⟨hT, hO⟩ h2 ho1
    obtain ⟨bC, k16⟩ := s
    replace h2 : mW l0 bT hop2 bN bI bO i14 s15 bC k16 = some out2 := h2
    try dsimp only at hT
    refine bD hT ?_
    clear hT
    unfold mW at h2
    refine aL ?_
    refine aX aD 4 [] [(64, (aE (decide (k16 < (lN s15)))))] ?_
    refine bJ h2 (fun h2 => ?_) (fun h2 => ?_)
    · refine bK ?_
      refine bH [(0, (eL aQ l0)), (1, (eI bT)), (2, (eI hop2)), (3, (eI bN)), (4, (eI bI)), (12, (eL (eI) bC)), (13, (eL (eL aB) bO)), (14, (eI i14)), (15, (eL bB s15)), (16, (eI k16))] ?_
      refine dP (fun T H => ∃ bC : (List Int), Has T [(0, (eL aQ l0)), (1, (eI bT)), (2, (eI hop2)), (3, (eI bN)), (4, (eI bI)), (12, (eL (eI) bC)), (13, (eL (eL aB) bO)), (14, (eI i14)), (15, (eL bB s15)), (16, (eI k16))] ∧ aI ⟨H0, [], []⟩ H [] ∧ uS l0 bT hop2 bN bI bC bO i14 s15 k16 = some out2) ?_ ?_
      · clear hO h2
        rintro T H ⟨bC, hT, hO, h2⟩
        refine bD hT ?_
        clear hT
        unfold uS at h2
        refine aW aD 3 ?_
        refine bG ?_
        exact aG (aF (⟨rfl, _, (oI h2).symm, .eq (by kernel_rfl), hO⟩))
      refine cA 3 ?_
      refine aL ?_
      refine aW aD 14 ?_
      obtain ⟨c69, h2⟩ := bA h2
      refine pZ 8 [0 ≤ k16 ∧ k16 < (lN s15)] ⟨c69, trivial⟩ ?_
      obtain ⟨x70, hx71, h2⟩ := aZ h2
      refine dQ (PF bT hop2 (gD s15 k16) bN bI _ hx71) hO ?_
      intro H hO
      refine bG ?_
      refine bZ [] [(17, (eL (eI) x70.1)), (18, (eI x70.2))] ?_
      refine aL ?_
      refine aX aD 2 [] [(80, (aE (!decide (x70.2 = (0 : Int)))))] ?_
      refine bJ h2 (fun h2 => ?_) (fun h2 => ?_)
      · refine bV aD 3 [(10, (.sl true 0 (fun _ => .bad))), (11, (eI x70.2))] ?_
        refine bL ?_
        refine dS (l := [(10, (eL aS ([]))), (11, (eI x70.2))]) ⟨[(10, (.sl true 0 (fun _ => .bad))), (11, (eI x70.2))], by kernel_rfl, rfl, ⟨jT, aN.refl _, trivial⟩⟩ ?_
        obtain rfl := oI h2
        obtain rfl : _ = rr1 := ho1
        replace h1 : some (.inr (.inr ([], x70.2))) = some out1 := h1
        obtain rfl := oI h1
        obtain rfl : _ = rr0 := ho0
        replace h0 : some ([], x70.2) = some r := h0
        obtain rfl := oI h0
        exact aG (aO (bE (aO (aO (bE (bE (aO (aO (bE (aO (Q_r hO)))))))))))
      refine bK ?_
      refine bH [(0, (eL aQ l0)), (1, (eI bT)), (2, (eI hop2)), (3, (eI bN)), (4, (eI bI)), (12, (eL (eI) bC)), (13, (eL (eL aB) bO)), (14, (eI i14)), (15, (eL bB s15)), (16, (eI k16)), (17, (eL (eI) x70.1))] ?_
      refine dP (fun T H => ∃ bC : (List Int), Has T [(0, (eL aQ l0)), (1, (eI bT)), (2, (eI hop2)), (3, (eI bN)), (4, (eI bI)), (12, (eL (eI) bC)), (13, (eL (eL aB) bO)), (14, (eI i14)), (15, (eL bB s15)), (16, (eI k16))] ∧ aI ⟨H0, [], []⟩ H [] ∧ qP l0 bT hop2 bN bI bC bO i14 s15 k16 = some out2) ?_ ?_
      · clear hO h2
        rintro T H ⟨bC, hT, hO, h2⟩
        refine bD hT ?_
        clear hT
        unfold qP at h2
        refine aX aD 3 [] [(96, (aE (decide ((1024 : Int) < (lN bC)))))] ?_
        refine bJ h2 (fun h2 => ?_) (fun h2 => ?_)
        · refine bV aD 2 [(10, (.sl true 0 (fun _ => .bad))), (11, (eI (7 : Int)))] ?_
          refine bL ?_
          refine dS (l := [(10, (eL aS ([]))), (11, (eI (7 : Int)))]) ⟨[(10, (.sl true 0 (fun _ => .bad))), (11, (eI (7 : Int)))], by kernel_rfl, rfl, ⟨jT, aN.refl _, trivial⟩⟩ ?_
          obtain rfl := oI h2
          obtain rfl : _ = rr1 := ho1
          replace h1 : some (.inr (.inr ([], (7 : Int)))) = some out1 := h1
          obtain rfl := oI h1
          obtain rfl : _ = rr0 := ho0
          replace h0 : some ([], (7 : Int)) = some r := h0
          obtain rfl := oI h0
          exact aG (bE (aO (aO (bE (bE (aO (aO (bE (aO (Q_r hO))))))))))
        refine bK ?_
        exact aG (aY (aF (⟨rfl, _, .eq (by kernel_rfl), hO, h2⟩)))
      refine aX aD 1 [] [(19, (eI (0 : Int)))] ?_
      refine cA 4 ?_
      refine eG [(0, (eL aQ l0)), (1, (eI bT)), (2, (eI hop2)), (3, (eI bN)), (4, (eI bI)), (12, (eL (eI) bC)), (13, (eL (eL aB) bO)), (14, (eI i14)), (15, (eL bB s15)), (16, (eI k16)), (17, (eL (eI) x70.1)), (19, (eI (0 : Int)))] ?_
      refine dY (fun T H => ∃ bC : (List Int), ∃ t17 : (List Int), ∃ j19 : Int, Has T [(0, (eL aQ l0)), (1, (eI bT)), (2, (eI hop2)), (3, (eI bN)), (4, (eI bI)), (12, (eL (eI) bC)), (13, (eL (eL aB) bO)), (14, (eI i14)), (15, (eL bB s15)), (16, (eI k16)), (17, (eL (eI) t17)), (19, (eI j19))] ∧ aI ⟨H0, [], []⟩ H [] ∧ uR l0 bT hop2 bN bI bC bO i14 s15 k16 t17 j19 = some out2) ?_ ⟨bC, x70.1, (0 : Int), .eq (by kernel_rfl), hO, h2⟩
      clear hO h2
      rintro T H ⟨bC, t17, j19, hT, hO, h2⟩
      refine bD hT ?_
      clear hT
      unfold uR at h2
      obtain ⟨rr2, hl2, h2⟩ := aZ h2
      refine cR (by kernel_rfl) (fun (s : (List Int) × Int) T H => Has T [(0, (eL aQ l0)), (1, (eI bT)), (2, (eI hop2)), (3, (eI bN)), (4, (eI bI)), (12, (eL (eI) s.1)), (13, (eL (eL aB) bO)), (14, (eI i14)), (15, (eL bB s15)), (16, (eI k16)), (17, (eL (eI) t17)), (19, (eI s.2))] ∧ aI ⟨H0, [], []⟩ H []) hl2 ⟨.eq (by kernel_rfl), hO⟩ ?_
      clear hO
      rintro k2 s out3 T H ⟨hT, hO⟩ h3 ho2
      obtain ⟨bC, j19⟩ := s
      replace h3 : oN l0 bT hop2 bN bI bO i14 s15 k16 t17 bC j19 = some out3 := h3
      try dsimp only at hT
      refine bD hT ?_
      clear hT
      unfold oN at h3
      refine aL ?_
      refine aX aD 4 [] [(85, (aE (decide (j19 < (lN t17)))))] ?_
      refine bJ h3 (fun h3 => ?_) (fun h3 => ?_)
      · refine bK ?_
        refine bH [(0, (eL aQ l0)), (1, (eI bT)), (2, (eI hop2)), (3, (eI bN)), (4, (eI bI)), (12, (eL (eI) bC)), (13, (eL (eL aB) bO)), (14, (eI i14)), (15, (eL bB s15)), (16, (eI k16)), (17, (eL (eI) t17)), (19, (eI j19))] ?_
        refine aL ?_
        refine cA 5 ?_
        refine aW aD 7 ?_
        obtain ⟨c76, h3⟩ := bA h3
        refine pZ 5 [0 ≤ j19 ∧ j19 < (lN t17)] ⟨c76, trivial⟩ ?_
        obtain ⟨x77, hx78, h3⟩ := aZ h3
        refine dQ (SX bC (gD t17 j19) _ hx78) hO ?_
        intro H hO
        refine bG ?_
        refine eP [(0, (eL aQ l0)), (1, (eI bT)), (2, (eI hop2)), (3, (eI bN)), (4, (eI bI)), (12, (eL (eI) x77)), (13, (eL (eL aB) bO)), (14, (eI i14)), (15, (eL bB s15)), (16, (eI k16)), (17, (eL (eI) t17)), (19, (eI j19))] ?_
        refine aG (aY (aF (?_)))
        refine aW aD 3 ?_
        refine bG ?_
        exact aG (aF (⟨rfl, _, (oI h3).symm, .eq (by kernel_rfl), hO⟩))
      refine eR 4 ?_
      obtain rfl := oI h3
      obtain rfl : _ = rr2 := ho2
      replace h2 : qP l0 bT hop2 bN bI bC bO i14 s15 k16 = some out2 := h2
      exact aG (aV (aV (bS (aF (⟨rfl, _, .eq (by kernel_rfl), hO, h2⟩)))))
    refine eR 2 ?_
    obtain rfl := oI h2
    obtain rfl : _ = rr1 := ho1
    replace h1 : rM l0 bT hop2 bN bI bC bO i14 = some out1 := h1
    exact aG (aV (aV (bS (aY (aF (⟨rfl, _, .eq (by kernel_rfl), hO, h1⟩))))))
  refine eR 0 ?_
  obtain rfl := oI h1
  obtain rfl : _ = rr0 := ho0
  replace h0 : rR l0 bT bC bO = some r := h0
  exact aG (aV (aV (bS (aF (⟨rfl, _, _, .eq (by kernel_rfl), hO, h0⟩)))))

theorem HM (a0 : (List cP)) (b1 : (List cP)) (r : Bool) (h0 : oE a0 b1 = some r) : dJ Try.prog 42 [(eL cE a0), (eL cE b1)] (aE r) := by
  intro H0
  refine dH Try.func42 ?_
  have hO := aI.start H0
  unfold oE at h0
  refine aX aD 1 [] [] ?_
  refine aL ?_
  refine aX aD 5 [] [(10, (aE (!decide ((lN a0) = (lN b1)))))] ?_
  refine bJ h0 (fun h0 => ?_) (fun h0 => ?_)
  · refine bV aD 1 [(4, (aE false))] ?_
    refine bL ?_
    obtain rfl := oI h0
    exact aG (aO (Q_r hO))
  refine bK ?_
  refine bH [(0, (eL cE a0)), (1, (eL cE b1))] ?_
  refine dP (fun T H => Has T [] ∧ aI ⟨H0, [], []⟩ H [] ∧ nL  = some r) ?_ ?_
  · clear hO h0
    rintro T H ⟨hT, hO, h0⟩
    refine bD hT ?_
    clear hT
    unfold nL at h0
    refine bV aD 1 [(4, (aE true))] ?_
    refine bL ?_
    obtain rfl := oI h0
    exact aG (Q_r hO)
  refine aX aD 1 [] [(5, (eI (0 : Int)))] ?_
  refine cA 0 ?_
  refine eG [(0, (eL cE a0)), (1, (eL cE b1)), (5, (eI (0 : Int)))] ?_
  refine dY (fun T H => ∃ i5 : Int, Has T [(0, (eL cE a0)), (1, (eL cE b1)), (5, (eI i5))] ∧ aI ⟨H0, [], []⟩ H [] ∧ qE a0 b1 i5 = some r) ?_ ⟨(0 : Int), .eq (by kernel_rfl), hO, h0⟩
  clear hO h0
  rintro T H ⟨i5, hT, hO, h0⟩
  refine bD hT ?_
  clear hT
  unfold qE at h0
  obtain ⟨rr0, hl0, h0⟩ := aZ h0
  refine cR (by kernel_rfl) (fun (s : Int) T H => Has T [(0, (eL cE a0)), (1, (eL cE b1)), (5, (eI s))] ∧ aI ⟨H0, [], []⟩ H []) hl0 ⟨.eq (by kernel_rfl), hO⟩ ?_
  clear hO
  rintro k0 s out1 T H ⟨hT, hO⟩ h1 ho0
  obtain ⟨i5, rfl⟩ : ∃ x, x = s := ⟨_, rfl⟩
  replace h1 : lW a0 b1 i5 = some out1 := h1
  refine bD hT ?_
  clear hT
  unfold lW at h1
  refine aL ?_
  refine aX aD 4 [] [(14, (aE (decide (i5 < (lN a0)))))] ?_
  refine bJ h1 (fun h1 => ?_) (fun h1 => ?_)
  · refine bK ?_
    refine bH [(0, (eL cE a0)), (1, (eL cE b1)), (5, (eI i5))] ?_
    refine aL ?_
    refine cA 1 ?_
    refine aL ?_
    obtain ⟨c3, h1⟩ := bA h1
    obtain ⟨c4, h1⟩ := bA h1
    obtain ⟨c5, h1⟩ := bA h1
    obtain ⟨c6, h1⟩ := bA h1
    obtain ⟨x7, hx8, h1⟩ := aZ h1
    refine eS (eU [21, 26, 33, 38]) aD 25 ?_
    refine mB (K := fun T H => Has (lift T) [(0, (eL cE a0)), (1, (eL cE b1)), (5, (eI i5)), (41, (aE ((!decide (((gD a0 i5).N) = ((gD b1 i5).N))) || (!x7))))] ∧ aI ⟨H0, [], []⟩ H []) ?_ ?_
    · refine cI 12 [0 ≤ i5 ∧ i5 < (lN a0), 0 ≤ i5 ∧ i5 < (lN b1)] ⟨c3, c4, trivial⟩ ?_
      refine kB (t := 28) (e := !decide (((gD a0 i5).N) = ((gD b1 i5).N))) (by kernel_rfl) (fun hg9 => ?_) (fun hg9 => ?_)
      · refine gK ?_
        exact ⟨⟨[(0, (eL cE a0)), (1, (eL cE b1)), (5, (eI i5)), (41, (aE true))], by kernel_rfl, rfl, ⟨aN.refl _, aN.refl _, aN.refl _, aN.eq (congrArg aE (FV hg9 rfl).symm), trivial⟩⟩, hO⟩
      refine cI 22 [0 ≤ i5 ∧ i5 < (lN a0), 0 ≤ i5 ∧ i5 < (lN b1)] ⟨(c5 (zC hg9)), (c6 (zC hg9)), trivial⟩ ?_
      refine lZ 46 [(eL aB ((gD a0 i5).Row)), (eL aB ((gD b1 i5).Row))] (aE x7) (by kernel_rfl) (by kernel_rfl) (CE ((gD a0 i5).Row) ((gD b1 i5).Row) _ (gV hx8 (zC hg9))) hO ?_
      intro H hO
      refine gK ?_
      exact ⟨⟨[(0, (eL cE a0)), (1, (eL cE b1)), (5, (eI i5)), (41, (aE (!x7)))], by kernel_rfl, rfl, ⟨aN.refl _, aN.refl _, aN.refl _, aN.eq (congrArg aE (FV hg9 rfl).symm), trivial⟩⟩, hO⟩
    · rintro T H ⟨hT, hO⟩
      refine dS hT ?_
      clear hT
      refine aG (aF ?_)
      refine bJ h1 (fun h1 => ?_) (fun h1 => ?_)
      · refine bV aD 1 [(4, (aE false))] ?_
        refine bL ?_
        obtain rfl := oI h1
        obtain rfl : _ = rr0 := ho0
        replace h0 : some false = some r := h0
        obtain rfl := oI h0
        exact aG (bE (aO (aO (bE (aO (Q_r hO))))))
      refine bK ?_
      refine eP [(0, (eL cE a0)), (1, (eL cE b1)), (5, (eI i5))] ?_
      refine aG (aY (aF (?_)))
      refine aW aD 3 ?_
      refine bG ?_
      exact aG (aF (⟨rfl, _, (oI h1).symm, .eq (by kernel_rfl), hO⟩))
  refine eR 0 ?_
  obtain rfl := oI h1
  obtain rfl : _ = rr0 := ho0
  replace h0 : nL  = some r := h0
  exact aG (aV (aV (bS (aF (⟨rfl, .eq (by kernel_rfl), hO, h0⟩)))))

theorem UP (a0 : (List aP)) (b1 : (List aP)) (r : Bool) (h0 : vW a0 b1 = some r) : dJ Try.prog 18 [(eL aS a0), (eL aS b1)] (aE r) := by
  intro H0
  refine dH Try.func18 ?_
  have hO := aI.start H0
  unfold vW at h0
  refine aX aD 1 [] [] ?_
  refine aL ?_
  refine aX aD 5 [] [(10, (aE (!decide ((lN a0) = (lN b1)))))] ?_
  refine bJ h0 (fun h0 => ?_) (fun h0 => ?_)
  · refine bV aD 1 [(4, (aE false))] ?_
    refine bL ?_
    obtain rfl := oI h0
    exact aG (aO (Q_r hO))
  refine bK ?_
  refine bH [(0, (eL aS a0)), (1, (eL aS b1))] ?_
  refine dP (fun T H => Has T [] ∧ aI ⟨H0, [], []⟩ H [] ∧ tH  = some r) ?_ ?_
  · clear hO h0
    rintro T H ⟨hT, hO, h0⟩
    refine bD hT ?_
    clear hT
    unfold tH at h0
    refine bV aD 1 [(4, (aE true))] ?_
    refine bL ?_
    obtain rfl := oI h0
    exact aG (Q_r hO)
  refine aX aD 1 [] [(5, (eI (0 : Int)))] ?_
  refine cA 0 ?_
  refine eG [(0, (eL aS a0)), (1, (eL aS b1)), (5, (eI (0 : Int)))] ?_
  refine dY (fun T H => ∃ i5 : Int, Has T [(0, (eL aS a0)), (1, (eL aS b1)), (5, (eI i5))] ∧ aI ⟨H0, [], []⟩ H [] ∧ yD a0 b1 i5 = some r) ?_ ⟨(0 : Int), .eq (by kernel_rfl), hO, h0⟩
  clear hO h0
  rintro T H ⟨i5, hT, hO, h0⟩
  refine bD hT ?_
  clear hT
  unfold yD at h0
  obtain ⟨rr0, hl0, h0⟩ := aZ h0
  refine cR (by kernel_rfl) (fun (s : Int) T H => Has T [(0, (eL aS a0)), (1, (eL aS b1)), (5, (eI s))] ∧ aI ⟨H0, [], []⟩ H []) hl0 ⟨.eq (by kernel_rfl), hO⟩ ?_
  clear hO
  rintro k0 s out1 T H ⟨hT, hO⟩ h1 ho0
  obtain ⟨i5, rfl⟩ : ∃ x, x = s := ⟨_, rfl⟩
  replace h1 : qK a0 b1 i5 = some out1 := h1
  refine bD hT ?_
  clear hT
  unfold qK at h1
  refine aL ?_
  refine aX aD 4 [] [(14, (aE (decide (i5 < (lN a0)))))] ?_
  refine bJ h1 (fun h1 => ?_) (fun h1 => ?_)
  · refine bK ?_
    refine bH [(0, (eL aS a0)), (1, (eL aS b1)), (5, (eI i5))] ?_
    refine aL ?_
    refine cA 1 ?_
    refine aL ?_
    obtain ⟨c3, h1⟩ := bA h1
    obtain ⟨c4, h1⟩ := bA h1
    obtain ⟨c5, h1⟩ := bA h1
    obtain ⟨c6, h1⟩ := bA h1
    obtain ⟨x7, hx8, h1⟩ := aZ h1
    refine eS (eU [21, 26, 33, 38]) aD 25 ?_
    refine mB (K := fun T H => Has (lift T) [(0, (eL aS a0)), (1, (eL aS b1)), (5, (eI i5)), (41, (aE ((!((decide ((((gD a0 i5).Span).From) = (((gD b1 i5).Span).From))) && ((decide ((((gD a0 i5).Span).To) = (((gD b1 i5).Span).To))) && true))) || (!x7))))] ∧ aI ⟨H0, [], []⟩ H []) ?_ ?_
    · refine cI 12 [0 ≤ i5 ∧ i5 < (lN a0), 0 ≤ i5 ∧ i5 < (lN b1)] ⟨c3, c4, trivial⟩ ?_
      refine kB (t := 28) (e := !((decide ((((gD a0 i5).Span).From) = (((gD b1 i5).Span).From))) && ((decide ((((gD a0 i5).Span).To) = (((gD b1 i5).Span).To))) && true))) (by kernel_rfl) (fun hg9 => ?_) (fun hg9 => ?_)
      · refine gK ?_
        exact ⟨⟨[(0, (eL aS a0)), (1, (eL aS b1)), (5, (eI i5)), (41, (aE true))], by kernel_rfl, rfl, ⟨aN.refl _, aN.refl _, aN.refl _, aN.eq (congrArg aE (FV hg9 rfl).symm), trivial⟩⟩, hO⟩
      refine cI 22 [0 ≤ i5 ∧ i5 < (lN a0), 0 ≤ i5 ∧ i5 < (lN b1)] ⟨(c5 (zC hg9)), (c6 (zC hg9)), trivial⟩ ?_
      refine lZ 42 [(eL cE ((gD a0 i5).Rows)), (eL cE ((gD b1 i5).Rows))] (aE x7) (by kernel_rfl) (by kernel_rfl) (HM ((gD a0 i5).Rows) ((gD b1 i5).Rows) _ (gV hx8 (zC hg9))) hO ?_
      intro H hO
      refine gK ?_
      exact ⟨⟨[(0, (eL aS a0)), (1, (eL aS b1)), (5, (eI i5)), (41, (aE (!x7)))], by kernel_rfl, rfl, ⟨aN.refl _, aN.refl _, aN.refl _, aN.eq (congrArg aE (FV hg9 rfl).symm), trivial⟩⟩, hO⟩
    · rintro T H ⟨hT, hO⟩
      refine dS hT ?_
      clear hT
      refine aG (aF ?_)
      refine bJ h1 (fun h1 => ?_) (fun h1 => ?_)
      · refine bV aD 1 [(4, (aE false))] ?_
        refine bL ?_
        obtain rfl := oI h1
        obtain rfl : _ = rr0 := ho0
        replace h0 : some false = some r := h0
        obtain rfl := oI h0
        exact aG (bE (aO (aO (bE (aO (Q_r hO))))))
      refine bK ?_
      refine eP [(0, (eL aS a0)), (1, (eL aS b1)), (5, (eI i5))] ?_
      refine aG (aY (aF (?_)))
      refine aW aD 3 ?_
      refine bG ?_
      exact aG (aF (⟨rfl, _, (oI h1).symm, .eq (by kernel_rfl), hO⟩))
  refine eR 0 ?_
  obtain rfl := oI h1
  obtain rfl : _ = rr0 := ho0
  replace h0 : tH  = some r := h0
  exact aG (aV (aV (bS (aF (⟨rfl, .eq (by kernel_rfl), hO, h0⟩)))))

theorem LH (l0 : (List aR)) (bT : Int) (DR : Int) (bN : Int) (bI : Int) (r : Bool) (h0 : sR l0 bT DR bN bI = some r) : dJ Try.prog 6 [(eL aQ l0), (eI bT), (eI DR), (eI bN), (eI bI)] (aE r) := by
  intro H0
  refine dH Try.func6 ?_
  have hO := aI.start H0
  unfold sR at h0
  refine aX aD 1 [] [] ?_
  refine aL ?_
  refine aL ?_
  refine aW aD 3 ?_
  refine bU 1 ?_
  obtain ⟨x1, hx2, h0⟩ := aZ h0
  refine dQ (WT l0 _ hx2) hO ?_
  intro H hO
  refine bG ?_
  refine bZ [] [(17, (aE (!x1)))] ?_
  refine bJ h0 (fun h0 => ?_) (fun h0 => ?_)
  · refine aL ?_
    refine aW aD 2 ?_
    obtain ⟨x5, hx6, h0⟩ := aZ h0
    refine dQ (HE  _ hx6) hO ?_
    intro H hO
    refine bG ?_
    refine bH [(10, (aE x5))] ?_
    refine bL ?_
    obtain rfl := oI h0
    exact aG (aO (Q_r hO))
  refine bK ?_
  refine bH [(0, (eL aQ l0)), (1, (eI bT)), (2, (eI DR)), (3, (eI bN)), (4, (eI bI))] ?_
  refine aL ?_
  refine aW aD 11 ?_
  refine bU 5 ?_
  obtain ⟨x8, hx9, h0⟩ := aZ h0
  refine dQ (KN l0 bT DR bN bI _ hx9) hO ?_
  intro H hO
  refine bG ?_
  refine bZ [] [(11, (eL aS x8.1)), (12, (eI x8.2))] ?_
  refine aL ?_
  refine aW aD 11 ?_
  refine bU 5 ?_
  obtain ⟨x11, hx12, h0⟩ := aZ h0
  refine dQ (SA l0 bT DR bN bI _ hx12) hO ?_
  intro H hO
  refine bG ?_
  refine bZ [0, 1, 2, 3, 4] [(13, (eL aS x11.1)), (14, (eI x11.2))] ?_
  refine aL ?_
  refine aW aD 12 ?_
  obtain ⟨x14, hx15, h0⟩ := aZ h0
  refine dQ (HE  _ hx15) hO ?_
  intro H hO
  refine bU 9 ?_
  obtain ⟨x17, hx18, h0⟩ := aZ h0
  refine lX [(43, true)] 18 [(eL aS x8.1), (eL aS x11.1)] (aE x17) (x14 && (decide (x8.2 = x11.2))) (by kernel_rfl) (by kernel_rfl) (by kernel_rfl) (fun hb19 => (UP x8.1 x11.1 _ (gV hx18 hb19))) hO ?_
  intro H hO
  refine bG ?_
  refine bH [(10, (aE ((x14 && (decide (x8.2 = x11.2))) && x17)))] ?_
  refine bL ?_
  obtain rfl := oI h0
  exact aG (Q_r hO)

end Go.Abs
namespace Go.Abs
open Go Go.RowKit Go.Proofs
theorem HV {H : Type} {enc : TypeId × Value → H} {w : World} : zO enc Try.prog w 52 aB CP :=
  IU Try.underlying52 (by kernel_rfl) (uD (c' := KM) (ok' := CP) (fun (a : Int) (b : Int × ByteArray × Unit) => (aC.mk a b.1 b.2.1 : aC)) (by kernel_rfl) (ED Try.underlying50) (uD (c' := fun (b : Int × ByteArray × Unit) => (V.cells (dG .i64 b.1) ++ (V.cells (AG b.2.1) ++ []))) (ok' := fun b => (yM b.1 ∧ ((fun s => s.size ≤ maxLen) b.2.1 ∧ True))) (fun a b => (a, b)) (by kernel_rfl) (ED Try.underlying3) (uD (c' := fun (b : ByteArray × Unit) => (V.cells (AG b.1) ++ [])) (ok' := fun b => ((fun s => s.size ≤ maxLen) b.1 ∧ True)) (fun a b => (a, b)) (by kernel_rfl) (VJ Try.underlying9) (NK ()) (fun _ _ => rfl) (fun _ _ h1 h2 => ⟨h1, h2⟩)) (fun _ _ => rfl) (fun _ _ h1 h2 => ⟨h1, h2⟩)) (fun _ _ => rfl) (fun _ _ h1 h2 => ⟨h1, h2⟩))

theorem JM {H : Type} {enc : TypeId × Value → H} {w : World} : zO enc Try.prog w 56 aQ xR :=
  IU Try.underlying56 (by kernel_rfl) (uD (c' := NO) (ok' := xR) (fun (a : (List aC)) (b : Int × Int × Unit) => (aR.mk a b.1 b.2.1 : aR)) (by kernel_rfl) (WZ Try.underlying54 (by decide +kernel) (fun _ => by kernel_rfl) (fun _ => rfl) HV (by kernel_rfl)) (uD (c' := fun (b : Int × Int × Unit) => (V.cells (dG .i64 b.1) ++ (V.cells (dG .i64 b.2.1) ++ []))) (ok' := fun b => (yM b.1 ∧ (yM b.2.1 ∧ True))) (fun a b => (a, b)) (by kernel_rfl) (ED Try.underlying3) (uD (c' := fun (b : Int × Unit) => (V.cells (dG .i64 b.1) ++ [])) (ok' := fun b => (yM b.1 ∧ True)) (fun a b => (a, b)) (by kernel_rfl) (ED Try.underlying3) (NK ()) (fun _ _ => rfl) (fun _ _ h1 h2 => ⟨h1, h2⟩)) (fun _ _ => rfl) (fun _ _ h1 h2 => ⟨h1, h2⟩)) (fun _ _ => rfl) (fun _ _ h1 h2 => ⟨h1, h2⟩))

end Go.Abs
namespace Go.Abs
open Go
theorem dM {n : Int} (h1 : -9223372036854775808 ≤ n) (h2 : n ≤ 9223372036854775807) : IntKind.i64.wrap n = n := by
  simp only [IntKind.wrap, IntKind.bits, IntKind.signed]
  simp
  split <;> omega

def uU {α st R : Type} (step : st → α → Option (st ⊕ R)) (fin : st → R) : st → List α → Option R
  | s, [] => some (fin s)
  | s, a :: r => match step s a with
    | some (.inl s') => uU step fin s' r
    | some (.inr x) => some x
    | none => none

theorem NC {α st R : Type} {step : st → α → Option (st ⊕ R)} {fin : st → R} {s s' : st} {a : α} {r : List α} (h : step s a = some (.inl s')) : uU step fin s (a :: r) = uU step fin s' r := by
  simp only [uU, h]

theorem ND {α st R : Type} {step : st → α → Option (st ⊕ R)} {fin : st → R} {s : st} {x : R} {a : α} {r : List α} (h : step s a = some (.inr x)) : uU step fin s (a :: r) = some x := by
  simp only [uU, h]

theorem XQ {α S st R : Type} {body : S → Option (S ⊕ R)} {l : List α} (mk : st → Int → S) (step : st → α → Option (st ⊕ R)) (fin : st → R)
    (hn : ∀ (i : Nat) a s, l[i]? = some a → (∀ s', step s a = some (.inl s') → body (mk s i) = some (.inl (mk s' ((i + 1 : Nat) : Int)))) ∧ (∀ x, step s a = some (.inr x) → body (mk s i) = some (.inr x)))
    (he : ∀ s, body (mk s (l.length : Nat)) = some (.inr (fin s))) : ∀ (m k : Nat) (s : st) (r : R), l.length - k = m → k ≤ l.length → uU step fin s (l.drop k) = some r → lp body (mk s k) = some r
  | 0, k, s, r, hm, hk, h => by
    have : k = l.length := by omega
    subst this
    rw [List.drop_length] at h
    simp only [uU, Option.some.injEq] at h
    subst h
    exact cU (he s)
  | m + 1, k, s, r, hm, hk, h => by
    have hlt : k < l.length := by omega
    have hd : l.drop k = l[k] :: l.drop (k + 1) := List.drop_eq_getElem_cons hlt
    rw [hd] at h
    simp only [uU] at h
    obtain ⟨h1, h2⟩ := hn k l[k] s (List.getElem?_eq_getElem hlt)
    split at h
    · rename_i s' hs
      rw [eX (h1 s' hs)]
      exact XQ mk step fin hn he m (k + 1) s' r (by omega) (by omega) h
    · rename_i x hs
      simp at h; subst h
      exact cU (h2 x hs)
    · cases h

theorem SK {α S st R : Type} {body : S → Option (S ⊕ R)} {l : List α} (mk : st → Int → S) (step : st → α → Option (st ⊕ R)) (fin : st → R)
    (hn : ∀ (i : Nat) a s, l[i]? = some a → (∀ s', step s a = some (.inl s') → body (mk s i) = some (.inl (mk s' ((i + 1 : Nat) : Int)))) ∧ (∀ x, step s a = some (.inr x) → body (mk s i) = some (.inr x)))
    (he : ∀ s, body (mk s (l.length : Nat)) = some (.inr (fin s))) {s : st} {r : R} (h : uU step fin s l = some r) : lp body (mk s 0) = some r :=
  XQ mk step fin hn he _ 0 s r rfl (Nat.zero_le _) (by simpa using h)

theorem idx {α : Type} [Inhabited α] {l : List α} {i : Nat} {a : α} (h : l[i]? = some a) (hl : l.length < 4611686018427387904) :
    decide ((i : Int) < ((l.length : Nat) : Int)) = true ∧ (0 ≤ (i : Int) ∧ (i : Int) < ((l.length : Nat) : Int)) ∧ l.getD (Int.toNat (i : Int)) default = a ∧ IntKind.i64.wrap ((i : Int) + 1) = ((i + 1 : Nat) : Int) := by
  have hlt : i < l.length := (List.getElem?_eq_some_iff.1 h).1
  refine ⟨by simpa using hlt, ⟨by omega, by omega⟩, ?_, ?_⟩
  · rw [Int.toNat_natCast, List.getD_eq_getElem?_getD, h]; rfl
  · rw [dM (by omega) (by omega)]; omega

theorem fO {n : Nat} : decide (((n : Nat) : Int) < ((n : Nat) : Int)) = false := by simp

theorem aEp {α : Type} {j : α} {r : List α} : (0 : Int) ≤ 0 ∧ (0 : Int) < ((List.length (j :: r) : Nat) : Int) := ⟨by omega, by simp⟩

theorem aDw {α : Type} [Inhabited α] {j : α} {r : List α} : List.getD (j :: r) (Int.toNat (0 : Int)) default = j := rfl

end Go.Abs
namespace Go.Abs
open Go
theorem drop_cons {α : Type} {l r : List α} {a : α} {k : Nat} (h : l.drop k = a :: r) : l[k]? = some a ∧ l.drop (k + 1) = r := by
  have hk : k < l.length := by
    apply Classical.byContradiction; intro hn
    rw [List.drop_eq_nil_of_le (by omega)] at h; cases h
  rw [List.drop_eq_getElem_cons hk] at h
  obtain ⟨h1, h2⟩ := List.cons.inj h
  exact ⟨by rw [List.getElem?_eq_getElem hk, h1], h2⟩

theorem aAp {α S st R : Type} {body : S → Option (S ⊕ R)} {l : List α} (mk : st → Int → S) (G : st → List α → R) (Inv : st → List α → Prop)
    (hn : ∀ (i : Nat) a r s, l[i]? = some a → Inv s (a :: r) → (∃ s', body (mk s i) = some (.inl (mk s' ((i + 1 : Nat) : Int))) ∧ Inv s' r ∧ G s' r = G s (a :: r)) ∨ body (mk s i) = some (.inr (G s (a :: r))))
    (he : ∀ s, Inv s [] → body (mk s (l.length : Nat)) = some (.inr (G s []))) : ∀ (r : List α) (k : Nat) (s : st), l.drop k = r → k ≤ l.length → Inv s r → lp body (mk s k) = some (G s r)
  | [], k, s, hd, hk, hi => by
    have : k = l.length := by
      have := congrArg List.length hd
      simp only [List.length_drop, List.length_nil] at this; omega
    subst this
    exact cU (he s hi)
  | a :: r, k, s, hd, hk, hi => by
    obtain ⟨h1, h2⟩ := drop_cons hd
    have hlt : k < l.length := (List.getElem?_eq_some_iff.1 h1).1
    rcases hn k a r s h1 hi with ⟨s', hb, hi', hg⟩ | hb
    · rw [eX hb, aAp mk G Inv hn he r (k + 1) s' h2 (by omega) hi', hg]
    · exact cU hb

theorem nS {α S st R : Type} {body : S → Option (S ⊕ R)} {l : List α} (mk : st → Int → S) (G : st → List α → R) (Inv : st → List α → Prop) (s : st)
    (hn : ∀ (i : Nat) a r s, l[i]? = some a → Inv s (a :: r) → (∃ s', body (mk s i) = some (.inl (mk s' ((i + 1 : Nat) : Int))) ∧ Inv s' r ∧ G s' r = G s (a :: r)) ∨ body (mk s i) = some (.inr (G s (a :: r))))
    (he : ∀ s, Inv s [] → body (mk s (l.length : Nat)) = some (.inr (G s []))) (hi : Inv s l) : lp body (mk s 0) = some (G s l) :=
  aAp mk G Inv hn he l 0 s rfl (Nat.zero_le _) hi

theorem CS {α S R : Type} {body : S → Option (S ⊕ R)} {l : List α} (mk : Int → S) (bad : α → Bool) (x y : R)
    (hn : ∀ (i : Nat) a, l[i]? = some a → body (mk i) = some (if bad a then .inr x else .inl (mk ((i + 1 : Nat) : Int))))
    (he : body (mk (l.length : Nat)) = some (.inr y)) : lp body (mk 0) = some (if l.any bad then x else y) := by
  refine nS (st := Unit) (fun _ i => mk i) (fun _ r => if r.any bad then x else y) (fun _ _ => True) () ?_ ?_ trivial
  · intro i a r s ha _
    have hb := hn i a ha
    cases h : bad a
    · left; refine ⟨(), ?_, trivial, ?_⟩
      · simpa [h] using hb
      · simp [List.any_cons, h]
    · right; simpa [h, List.any_cons] using hb
  · intro _ _; simpa using he

end Go.Abs
namespace Go.Abs
open Go
variable {α : Type} [Inhabited α]
structure Cmp {β : Type} (ok : β → Prop) (le : β → β → Prop) (cmp : β → β → Option Int) : Prop where
  ans : ∀ x y, ok x → ok y → ∃ v, cmp x y = some v ∧ (v < 0 ↔ ¬ le y x)
  trans : ∀ x y z, ok x → ok y → ok z → le x y → le y z → le x z
  total : ∀ x y, ok x → ok y → le x y ∨ le y x

abbrev Srt {β : Type} (le : β → β → Prop) (l : List β) : Prop := l.Pairwise le

abbrev Oks {β : Type} (ok : β → Prop) (l : List β) : Prop := ∀ x ∈ l, ok x

section ins
variable {ok : α → Prop} {le : α → α → Prop} {cmp : α → α → Option Int}
end ins
end Go.Abs
namespace Go.Abs
open Go
variable {α : Type} [Inhabited α]
section sym
variable {ok : α → Prop} {le : α → α → Prop} {cmp : α → α → Option Int}
theorem Cmp.refl {β : Type} {ok : β → Prop} {le : β → β → Prop} {cmp : β → β → Option Int} (C : Cmp ok le cmp) {x : β} (h : ok x) : le x x := by rcases C.total x x h h with h | h <;> exact h

end sym
end Go.Abs
namespace Go.Abs
open Go
variable {α : Type} [Inhabited α] {ok : α → Prop} {le : α → α → Prop} {cmp : α → α → Option Int}
inductive PG {β : Type} (le : β → β → Prop) (n : Nat) : List β → Prop
  | last {l : List β} : l.length ≤ n → Srt le l → PG le n l
  | cons {x l : List β} : x.length = n → Srt le x → PG le n l → PG le n (x ++ l)

theorem PG.split {β : Type} {le : β → β → Prop} {n : Nat} {l : List β} (h : PG le n l) (hl : n < l.length) : ∃ x r, l = x ++ r ∧ x.length = n ∧ Srt le x ∧ PG le n r := by
  cases h with
  | last h' _ => omega
  | cons hx hs hr => exact ⟨_, _, rfl, hx, hs, hr⟩

theorem Oks.perm {β : Type} {ok : β → Prop} {l l' : List β} (h : Oks ok l) (hp : l'.Perm l) : Oks ok l' := fun x hx => h x (hp.mem_iff.1 hx)

end Go.Abs
namespace Go.Abs
open Go
structure aEk where
  Row : (List aC)
  Span : aT
  deriving Inhabited, DecidableEq

structure aEo where
  Kind : Int
  Input : Int
  Edges : (List aR)
  At : Int
  deriving Inhabited, DecidableEq

structure aEl where
  row : (List aC)
  jumps : (List aH)
  deriving Inhabited, DecidableEq

structure aEg where
  Kind : Int
  Size : Int
  Hop : Int
  deriving Inhabited, DecidableEq

end Go.Abs
namespace Go.Abs
open Go
def JK (n : Int) : Bool := decide (n ≤ 1048576) && decide (-1048576 ≤ n)

theorem aCO (n : Int) : AU n = some (JK n) := rfl

def qC (last : Int) (j : aH) : Bool := decide (j.At ≤ last) || decide (1125899906842624 ≤ j.At) || decide (j.Net = 0) || !JK j.Net

def chk (last : Int) : List aH → Bool
  | [] => true
  | j :: r => !qC last j && chk j.At r

def gE (f : List aH) : Bool := decide (f.length ≤ 1024) && chk (-2) f

theorem VR {f : List aH} {i : Nat} {a : aH} {last : Int} (ha : f[i]? = some a) (hl : f.length < 4611686018427387904) :
    mS f (f.length : Nat) last i = some (if qC last a then .inr (.inr false) else .inl (a.At, ((i + 1 : Nat) : Int))) := by
  obtain ⟨d1, d2, d3, d4⟩ := idx ha hl
  simp only [mS, d1, cond_true, aM d2, d3, d4, aCO]
  unfold qC
  cases h : (decide (a.At ≤ last) || decide (1125899906842624 ≤ a.At) || decide (a.Net = 0)) <;> cases h2 : JK a.Net <;> simp [cT]

theorem VO : ∀ (f : List aH) (last : Int), uU (fun last (j : aH) => some (if qC last j then .inr (.inr false) else .inl j.At)) (fun _ => (.inl () : Unit ⊕ Bool)) last f = some (if chk last f then .inl () else .inr false)
  | [], last => by simp [uU, chk]
  | j :: r, last => by
    cases h : qC last j
    · rw [NC (s' := j.At) (by simp [h])]
      rw [VO r j.At]
      simp [chk, h]
    · rw [ND (x := .inr false) (by simp [h])]
      simp [chk, h]

theorem MT (f : List aH) : oZ f = some (gE f) := by
  unfold oZ gE
  by_cases hl : f.length ≤ 1024
  · have h1 : decide ((1024 : Int) < ((f.length : Nat) : Int)) = false := by simp; omega
    rw [h1, cond_false]
    unfold AO
    have key := SK (l := f) (body := fun s : Int × Int => mS f (f.length : Nat) s.1 s.2) (fun last i => (last, i)) _ _
      (fun i a s ha => by
        constructor
        · intro s' hs
          show mS f (f.length : Nat) s i = _
          rw [VR ha (by omega)]
          split at hs <;> simp_all
        · intro x hs
          show mS f (f.length : Nat) s i = _
          rw [VR ha (by omega)]
          split at hs <;> simp_all)
      (fun s => by show mS f (f.length : Nat) s (f.length : Nat) = _; simp only [mS, fO, cond_false]) (VO f (-2))
    rw [key]
    cases h : chk (-2) f <;> simp [xJ, hl]
  · have h1 : decide ((1024 : Int) < ((f.length : Nat) : Int)) = true := by simp; omega
    rw [h1, cond_true]
    simp [hl]

theorem mJ {last : Int} {j : aH} : qC last j = false ↔ last < j.At ∧ j.At < 1125899906842624 ∧ j.Net ≠ 0 ∧ j.Net ≤ 1048576 ∧ -1048576 ≤ j.Net := by
  simp [qC, JK]
  omega

def pY (last : Int) : List aH → Prop
  | [] => True
  | j :: r => (last < j.At ∧ j.At < 1125899906842624 ∧ j.Net ≠ 0 ∧ j.Net ≤ 1048576 ∧ -1048576 ≤ j.Net) ∧ pY j.At r

theorem YB : ∀ {f : List aH} {last : Int}, chk last f = true ↔ pY last f
  | [], last => by simp [chk, pY]
  | j :: r, last => by simp [chk, pY, mJ, YB]

theorem lM {f : List aH} : gE f = true ↔ f.length ≤ 1024 ∧ pY (-2) f := by simp [gE, YB]

theorem pY.above : ∀ {f : List aH} {last : Int}, pY last f → ∀ j ∈ f, last < j.At ∧ j.At < 1125899906842624 ∧ j.Net ≠ 0 ∧ j.Net ≤ 1048576 ∧ -1048576 ≤ j.Net
  | [], _, _, j, hj => by simp at hj
  | a :: r, last, h, j, hj => by
    rcases List.mem_cons.1 hj with rfl | hj
    · exact h.1
    · have := h.2.above j hj
      have h1 := h.1.1
      exact ⟨by omega, this.2⟩

def val (f : List aH) (t : Int) : Int := (f.map fun j => if j.At ≤ t then j.Net else 0).sum

theorem JA (t : Int) : val [] t = 0 := rfl

theorem gL (j : aH) (r : List aH) (t : Int) : val (j :: r) t = (if j.At ≤ t then j.Net else 0) + val r t := by simp [val]

theorem IN : ∀ {f : List aH} {b : Int} (t : Int), 0 ≤ b → (∀ j ∈ f, j.Net ≤ b ∧ -b ≤ j.Net) → val f t ≤ b * f.length ∧ -(b * f.length) ≤ val f t
  | [], b, t, _, _ => by simp [val]
  | j :: r, b, t, hb, h => by
    obtain ⟨h1, h2⟩ := IN t hb (fun k hk => h k (List.mem_cons_of_mem _ hk))
    have h3 := h j (List.mem_cons_self ..)
    rw [gL]
    simp only [List.length_cons, Int.natCast_add, Int.natCast_one, Int.mul_add, Int.mul_one]
    split <;> omega

theorem vS {f : List aH} {t : Int} (h : ∀ j ∈ f, t < j.At) : val f t = 0 := by
  induction f with
  | nil => rfl
  | cons j r ih =>
    rw [gL, ih (fun k hk => h k (List.mem_cons_of_mem _ hk))]
    have := h j (List.mem_cons_self ..)
    rw [if_neg (by omega)]; rfl

theorem YE {f : List aH} {i : Nat} {a : aH} {t v : Int} (ha : f[i]? = some a) (hl : f.length < 4611686018427387904) :
    nW t f (f.length : Nat) v i = some (if t < a.At then .inr v else .inl (IntKind.i64.wrap (v + a.Net), ((i + 1 : Nat) : Int))) := by
  obtain ⟨d1, d2, d3, d4⟩ := idx ha hl
  simp only [nW, d1, cond_true, aM d2, d3, d4]
  by_cases h : t < a.At <;> simp [h]

theorem aCX {t : Int} (f : List aH) : ∀ (last v : Int), pY last f → v ≤ 1048576 * (2048 - f.length) → -(1048576 * (2048 - f.length)) ≤ v → f.length ≤ 1024 →
    uU (fun v (j : aH) => some (if t < j.At then .inr v else .inl (IntKind.i64.wrap (v + j.Net)))) (fun v => (v : Int)) v f = some (v + val f t) := by
  induction f with
  | nil => intro last v _ _ _ _; simp [uU, val]
  | cons j r ih =>
    intro last v h h1 h2 hl
    simp only [List.length_cons] at h1 h2 hl
    by_cases hj : t < j.At
    · rw [ND (x := v) (by simp [hj])]
      rw [vS (fun k hk => by
        rcases List.mem_cons.1 hk with rfl | hk
        · exact hj
        · have := (h.2.above k hk).1; omega)]
      simp
    · have hj1 := h.1
      have hw : IntKind.i64.wrap (v + j.Net) = v + j.Net := dM (by omega) (by omega)
      rw [NC (s' := v + j.Net) (by simp [hj, hw])]
      rw [ih j.At (v + j.Net) h.2 (by omega) (by omega) (by omega), gL, if_pos (by omega)]
      congr 1
      omega

theorem aEf (f : List aH) (t : Int) : BB f t = some (if gE f then val f t else 0) := by
  unfold BB
  rw [MT]
  simp only [Option.bind_some]
  cases h : gE f
  · simp
  · obtain ⟨hl, hr⟩ := lM.1 h
    simp only [Bool.not_true, cond_false, if_true]
    unfold BN
    have key := SK (l := f) (body := fun s : Int × Int => nW t f (f.length : Nat) s.1 s.2) (fun v i => (v, i)) _ _
      (fun i a s ha => by
        constructor
        · intro s' hs
          show nW t f (f.length : Nat) s i = _
          rw [YE ha (by omega)]
          split at hs <;> simp_all
        · intro x hs
          show nW t f (f.length : Nat) s i = _
          rw [YE ha (by omega)]
          split at hs <;> simp_all)
      (fun s => by show nW t f (f.length : Nat) s (f.length : Nat) = _; simp only [nW, fO, cond_false]) (aCX (t := t) f (-2) 0 hr (by omega) (by omega) hl)
    rw [key]
    simp [wP]

end Go.Abs
namespace Go.Abs
open Go
section both
variable {op : Int → Int → Option Int} {f g r : List aH} {out : List aH} {a b was t : Int} {j : aH}
end both
def emit (p v was : Int) : List aH := if v = was then [] else [⟨p, v - was⟩]

def aCA (was : Int) : List (Int × Int) → List aH
  | [] => []
  | x :: r => emit x.1 x.2 was ++ aCA x.2 r

def merge (f g : List aH) (a b : Int) : List (Int × Int × Int) :=
  match f, g with
  | [], [] => []
  | j :: f, [] => (j.At, a + j.Net, b) :: merge f [] (a + j.Net) b
  | [], k :: g => (k.At, a, b + k.Net) :: merge [] g a (b + k.Net)
  | j :: f, k :: g =>
    if j.At < k.At then (j.At, a + j.Net, b) :: merge f (k :: g) (a + j.Net) b
    else if k.At < j.At then (k.At, a, b + k.Net) :: merge (j :: f) g a (b + k.Net)
    else (j.At, a + j.Net, b + k.Net) :: merge f g (a + j.Net) (b + k.Net)

termination_by f.length + g.length
end Go.Abs
namespace Go.Abs
open Go
def comb (OP : Int → Int → Int) (f g : List aH) : List aH := aCA 0 ((merge f g 0 0).map fun x => (x.1, OP x.2.1 x.2.2))

def told (f : List aH) : List aH × Int := if gE f then (f, 0) else ([], 7)

def two (OP : Int → Int → Int) (f g : List aH) : List aH × Int := if gE f && gE g then told (comb OP f g) else ([], 2)

end Go.Abs
namespace Go.Abs
open Go
theorem pY.CQ {l t : Int} {f : List aH} (h : pY l f) (ht : t ≤ l) : val f t = 0 := vS fun j hj => by have := (h.above j hj).1; omega

end Go.Abs
namespace Go.Abs
open Go
def xM (f : List aH) : Nat → Int
  | 0 => -2
  | k + 1 => (f.getD k default).At

theorem XM {f : List aH} {i : Nat} {a : aH} {last : Int} (ha : f[i]? = some a) (hl : f.length ≤ 1024) (hlast : last = xM f i) (hp : -2 ≤ last) (hp' : 0 < i → -1 ≤ last) :
    mA f i = some (if qC last a then .inr (.inr false) else .inl ((i + 1 : Nat) : Int)) := by
  obtain ⟨d1, d2, d3, d4⟩ := idx ha (by omega)
  have hlt : i < f.length := (List.getElem?_eq_some_iff.1 ha).1
  simp only [mA, d1, cond_true, d3, d4]
  rw [aM d2, aM (fun _ => d2), aM (fun _ => d2), aM (fun _ => d2), aM (fun _ => d2), aM (fun _ => d2)]
  cases i with
  | zero =>
    rw [aM (fun h => by simp at h)]
    have hm2 : last = -2 := hlast
    subst hm2
    by_cases hb : qC (-2) a = true
    · rw [if_pos hb]
      have hx : (((((decide (a.At < -1)) || (decide (1125899906842624 ≤ a.At))) || (decide (a.Net = 0))) || (decide (1048576 < a.Net))) || (decide (a.Net < -1048576))) = true := by
        simp [qC, JK] at hb ⊢; omega
      rw [hx, cond_true]
    · have hb' : qC (-2) a = false := by simpa using hb
      rw [if_neg hb]
      rw [mJ] at hb'
      have hx : (((((decide (a.At < -1)) || (decide (1125899906842624 ≤ a.At))) || (decide (a.Net = 0))) || (decide (1048576 < a.Net))) || (decide (a.Net < -1048576))) = false := by
        simp; omega
      rw [hx, cond_false]
      simp
  | succ k =>
    have hw : IntKind.i64.wrap (((k + 1 : Nat) : Int) - 1) = (k : Int) := by rw [dM (by omega) (by omega)]; omega
    have hg : List.getD f (Int.toNat (k : Int)) default = f.getD k default := by rw [Int.toNat_natCast]
    rw [hw, hg, aM (fun _ => ⟨by omega, by omega⟩)]
    have hpos : decide ((0 : Int) < ((k + 1 : Nat) : Int)) = true := by simp
    have hp1 := hp' (by omega)
    have hl2 : (f.getD k default).At = last := hlast.symm
    rw [hpos, Bool.true_and, hl2]
    by_cases hb : qC last a = true
    · rw [if_pos hb]
      by_cases hx : (((((decide (a.At < -1)) || (decide (1125899906842624 ≤ a.At))) || (decide (a.Net = 0))) || (decide (1048576 < a.Net))) || (decide (a.Net < -1048576))) = true
      · rw [hx, cond_true]
      · have hx' : (((((decide (a.At < -1)) || (decide (1125899906842624 ≤ a.At))) || (decide (a.Net = 0))) || (decide (1048576 < a.Net))) || (decide (a.Net < -1048576))) = false := by simpa using hx
        have hy : decide (a.At ≤ last) = true := by
          simp [qC, JK] at hb hx' ⊢; omega
        rw [hx', cond_false, hy, cond_true]
    · have hb' : qC last a = false := by simpa using hb
      rw [if_neg hb]
      rw [mJ] at hb'
      have hx : (((((decide (a.At < -1)) || (decide (1125899906842624 ≤ a.At))) || (decide (a.Net = 0))) || (decide (1048576 < a.Net))) || (decide (a.Net < -1048576))) = false := by
        simp; omega
      have hy : decide (a.At ≤ last) = false := by simp; omega
      rw [hx, cond_false, hy, cond_false]

theorem RB {f : List aH} (hl : f.length ≤ 1024) : ∀ (m k : Nat), f.length - k = m → k ≤ f.length → -2 ≤ xM f k → (0 < k → -1 ≤ xM f k) → lp (fun s => mA f s) (k : Int) = some (if chk (xM f k) (f.drop k) = true then .inl () else .inr false)
  | 0, k, hm, hk, _, _ => by
    have : k = f.length := by omega
    subst this
    rw [List.drop_length]
    refine cU ?_
    show mA f _ = _
    simp [mA, chk]
  | m + 1, k, hm, hk, hp, hp' => by
    have h1 : k < f.length := by omega
    have hb := XM (List.getElem?_eq_getElem h1) hl rfl hp hp'
    have e1 : f.drop k = f[k] :: f.drop (k + 1) := List.drop_eq_getElem_cons h1
    have hpa : xM f (k + 1) = f[k].At := by simp [xM, List.getD_eq_getElem?_getD, h1]
    rw [e1]
    by_cases h : qC (xM f k) f[k] = true
    · rw [if_pos h] at hb
      rw [cU (show (fun s => mA f s) (k : Int) = _ from hb)]
      simp [chk, h]
    · rw [if_neg h] at hb
      have h' : qC (xM f k) f[k] = false := by simpa using h
      have := mJ.1 h'
      rw [eX (show (fun s => mA f s) (k : Int) = _ from hb), RB hl m (k + 1) (by omega) (by omega) (by rw [hpa]; omega) (fun _ => by rw [hpa]; omega), hpa]
      simp [chk, h']

theorem PU (f : List aH) : qZ f = some (gE f) := by
  unfold qZ gE
  by_cases hl : f.length ≤ 1024
  · have h1 : decide ((1024 : Int) < ((f.length : Nat) : Int)) = false := by simp; omega
    rw [h1, cond_false]
    unfold yW
    have := RB hl f.length 0 rfl (Nat.zero_le _) (by simp [xM]) (by omega)
    simp only [Int.natCast_zero, List.drop_zero, xM] at this
    rw [this]
    cases h : chk (-2) f <;> simp [vP, hl]
  · have h1 : decide ((1024 : Int) < ((f.length : Nat) : Int)) = true := by simp; omega
    rw [h1, cond_true]
    simp [hl]

end Go.Abs
namespace Go.Abs
open Go
def aDC (f : List aH) : Int := (f.map aH.Net).sum

def aCp (t : Int) : List aH → List aH
  | [] => []
  | j :: r => if t ≤ j.At then [] else j :: aCp t r

def aft (t : Int) : List aH → List aH
  | [] => []
  | j :: r => if t ≤ j.At then j :: r else aft t r

end Go.Abs
namespace Go.Abs
open Go
def aEh (t : Int) (f : List aH) : List aH := (if aDC (aCp t f) = 0 then [] else [⟨-1, aDC (aCp t f)⟩]) ++ aft t f

def rest (f : List aH) (t : Int) : List aH × Int :=
  if gE f then (if 1125899906842624 ≤ t then ([], 0) else if t ≤ -1 then (f, 0) else told (aEh t f)) else ([], 2)

end Go.Abs
namespace Go.Abs
open Go
def Up (last : Int) : List aH → Prop
  | [] => True
  | j :: r => (last < j.At ∧ j.At < 1125899906842624 ∧ j.Net ≠ 0) ∧ Up j.At r

theorem Up.above : ∀ {f : List aH} {last : Int}, Up last f → ∀ j ∈ f, last < j.At ∧ j.At < 1125899906842624 ∧ j.Net ≠ 0
  | [], _, _, j, hj => by simp at hj
  | a :: r, last, h, j, hj => by
    rcases List.mem_cons.1 hj with rfl | hj
    · exact h.1
    · have := h.2.above j hj
      have h1 := h.1.1
      exact ⟨by omega, this.2⟩

theorem Up.CQ {l t : Int} {f : List aH} (h : Up l f) (ht : t ≤ l) : val f t = 0 := vS fun j hj => by have := (h.above j hj).1; omega

theorem Up.weaken {a b : Int} {f : List aH} (h : Up b f) (hab : a ≤ b) : Up a f := by
  cases f with
  | nil => trivial
  | cons j r => exact ⟨⟨by have := h.1.1; omega, h.1.2⟩, h.2⟩

theorem pY.up : ∀ {f : List aH} {last : Int}, pY last f → Up last f
  | [], _, _ => trivial
  | _ :: _, _, h => ⟨⟨h.1.1, h.1.2.1, h.1.2.2.1⟩, h.2.up⟩

theorem Up.ext : ∀ {f g : List aH} {last : Int}, Up last f → Up last g → (∀ t, last < t → t < 1125899906842624 → val f t = val g t) → f = g
  | [], [], _, _, _, _ => rfl
  | j :: r, [], last, hf, _, h => by
    have := h j.At hf.1.1 hf.1.2.1
    rw [gL, if_pos (Int.le_refl _), hf.2.CQ (Int.le_refl _), JA] at this
    exact absurd (by omega) hf.1.2.2
  | [], k :: s, last, _, hg, h => by
    have := h k.At hg.1.1 hg.1.2.1
    rw [gL, if_pos (Int.le_refl _), hg.2.CQ (Int.le_refl _), JA] at this
    exact absurd (by omega) hg.1.2.2
  | j :: r, k :: s, last, hf, hg, h => by
    have h1 := h j.At hf.1.1 hf.1.2.1
    have h2 := h k.At hg.1.1 hg.1.2.1
    rw [gL, if_pos (Int.le_refl _), hf.2.CQ (Int.le_refl _), gL] at h1
    rw [gL, gL k, if_pos (Int.le_refl _), hg.2.CQ (Int.le_refl _)] at h2
    have n1 := hf.1.2.2
    have n2 := hg.1.2.2
    have he : j.At = k.At := by
      rcases Int.lt_trichotomy j.At k.At with h3 | h3 | h3
      · rw [if_neg (by omega), hg.2.CQ (by omega)] at h1; omega
      · exact h3
      · rw [if_neg (by omega), hf.2.CQ (by omega)] at h2; omega
    rw [if_pos (by omega), hg.2.CQ (by omega)] at h1
    have hj : j = k := by
      obtain ⟨a, b⟩ := j; obtain ⟨c, d⟩ := k
      simp only at he h1
      simp only [Int.add_zero] at h1
      rw [he, h1]
    subst hj
    rw [hf.2.ext hg.2 (fun t ht ht' => by
      have := h t (by have := hf.1.1; omega) ht'
      rw [gL, gL] at this; omega)]

def Inc (last : Int) : List Int → Prop
  | [] => True
  | p :: r => (last < p ∧ p < 1125899906842624) ∧ Inc p r

theorem Inc.above : ∀ {ps : List Int} {last : Int}, Inc last ps → ∀ p ∈ ps, last < p ∧ p < 1125899906842624
  | [], _, _, j, hj => by simp at hj
  | a :: r, last, h, j, hj => by
    rcases List.mem_cons.1 hj with rfl | hj
    · exact h.1
    · have := h.2.above j hj
      have h1 := h.1.1
      exact ⟨by omega, this.2⟩

end Go.Abs
namespace Go.Abs
open Go
theorem WY {f : List aH} (t : Int) (hb : ∀ j ∈ f, j.Net ≤ 1048576 ∧ -1048576 ≤ j.Net) (hl : f.length ≤ 1099511627776) : mH f t = some (val f t) := by
  unfold mH wA
  rw [nS (l := f) (body := fun s : Int × Int => kJ f t s.1 s.2) (fun v i => (v, i)) (fun v r => v + val r t)
    (fun v r => (∀ j ∈ r, j.Net ≤ 1048576 ∧ -1048576 ≤ j.Net) ∧ r.length ≤ 1099511627776 ∧ v ≤ 1048576 * (1099511627776 - r.length) ∧ -(1048576 * (1099511627776 - r.length)) ≤ v) 0 ?_ ?_ ?_]
  · simp [sF]
  · intro i a r v ha ⟨h1, h2, h3, h4⟩
    obtain ⟨d1, d2, d3, d4⟩ := idx ha (by omega)
    have hj := h1 a (List.mem_cons_self ..)
    simp only [List.length_cons] at h2 h3 h4
    left
    by_cases h : a.At ≤ t
    · refine ⟨v + a.Net, ?_, ⟨fun j hj => h1 j (List.mem_cons_of_mem _ hj), by omega, by omega, by omega⟩, ?_⟩
      · show kJ f t v i = _
        have hw : IntKind.i64.wrap (v + a.Net) = v + a.Net := dM (by omega) (by omega)
        simp only [kJ, pG, d1, cond_true, aM d2, d3, d4, h, decide_true, hw]
      · show v + a.Net + val r t = v + val (a :: r) t
        rw [gL, if_pos h]; omega
    · refine ⟨v, ?_, ⟨fun j hj => h1 j (List.mem_cons_of_mem _ hj), by omega, by omega, by omega⟩, ?_⟩
      · show kJ f t v i = _
        simp only [kJ, pG, d1, cond_true, aM d2, d3, d4, h, decide_false, cond_false]
      · show v + val r t = v + val (a :: r) t
        rw [gL, if_neg h]; omega
  · intro s _
    show kJ f t s (f.length : Nat) = _
    simp only [kJ, fO, cond_false]
    simp [val]
  · exact ⟨hb, hl, by omega, by omega⟩

theorem SW {f : List aH} (h : gE f = true) : ∀ j ∈ f, j.Net ≤ 1048576 ∧ -1048576 ≤ j.Net := fun j hj => by have := (lM.1 h).2.above j hj; omega

theorem CH {f : List aH} (h : gE f = true) (t : Int) : mH f t = some (val f t) :=
  WY t (SW h) (by have := (lM.1 h).1; omega)

def kH (t : Int) : List Int → List Int
  | [] => [t]
  | p :: r => if p = t then p :: r else if t < p then t :: p :: r else p :: kH t r

theorem QS {t x : Int} : ∀ {ps : List Int}, x ∈ kH t ps ↔ x = t ∨ x ∈ ps
  | [] => by simp [kH]
  | p :: r => by
    unfold kH
    split
    · rename_i h; subst h; simp
    · split
      · simp
      · simp only [List.mem_cons, QS (ps := r)]; constructor <;> (intro h; rcases h with h | h | h <;> simp [h])

theorem DU {t : Int} : ∀ {ps : List Int} {last : Int}, Inc last ps → last < t → t < 1125899906842624 → Inc last (kH t ps)
  | [], last, _, h1, h2 => ⟨⟨h1, h2⟩, trivial⟩
  | p :: r, last, h, h1, h2 => by
    unfold kH
    split
    · exact h
    · split
      · rename_i h3 h4
        exact ⟨⟨h1, h2⟩, ⟨h4, h.1.2⟩, h.2⟩
      · exact ⟨h.1, DU h.2 (by omega) h2⟩

theorem PT {t : Int} : ∀ {ps : List Int}, (kH t ps).length ≤ ps.length + 1
  | [] => by simp [kH]
  | p :: r => by
    unfold kH
    split
    · simp
    · split
      · simp
      · simp only [List.length_cons]; have := PT (t := t) (ps := r); omega

theorem HD {t : Int} : ∀ {ps : List Int}, (∀ x ∈ ps, x < t) → kH t ps = ps ++ [t]
  | [], _ => rfl
  | p :: r, h => by
    have := h p (List.mem_cons_self ..)
    unfold kH
    rw [if_neg (by omega), if_neg (by omega), HD (fun x hx => h x (List.mem_cons_of_mem _ hx))]; rfl

theorem GC {t : Int} : ∀ {ps : List Int} {last : Int}, Inc last ps → t ∈ ps → kH t ps = ps
  | [], _, _, h => by simp at h
  | p :: r, last, hi, h => by
    unfold kH
    split
    · rfl
    · rename_i hp
      rcases List.mem_cons.1 h with h | h
      · exact absurd h.symm hp
      · have := (hi.2.above t h).1
        rw [if_neg (by omega), GC hi.2 h]

theorem aAt {l out : List Int} {t a : Int} {put : Bool} {i : Nat} (ha : l[i]? = some a) (hl : l.length ≤ 1099511627776) (ho : out.length ≤ 2199023255552) :
    jS l t out put i = some (if a = t then .inr (.inr l) else if t < a ∧ put = false then .inl (out ++ [t] ++ [a], true, ((i + 1 : Nat) : Int)) else .inl (out ++ [a], put, ((i + 1 : Nat) : Int))) := by
  obtain ⟨d1, d2, d3, d4⟩ := idx ha (by omega)
  simp only [jS, tE, d1, cond_true, aM d2, d3, d4]
  by_cases h1 : a = t
  · simp [h1]
  · rw [decide_eq_false h1, cond_false, if_neg h1]
    by_cases h2 : t < a
    · cases put
      · simp only [h2, decide_true, Bool.not_false, Bool.and_self, cond_true, and_self, if_true]
        rw [aM (by simp only [List.length_cons, List.length_nil]; omega), aM (by simp only [List.length_append, List.length_cons, List.length_nil]; omega)]
      · simp only [h2, decide_true, Bool.not_true, Bool.and_false, cond_false, and_false, if_false, reduceCtorEq]
        rw [aM (by simp only [List.length_cons, List.length_nil]; omega)]
    · simp only [h2, decide_false, Bool.false_and, cond_false, false_and, if_false]
      rw [aM (by simp only [List.length_cons, List.length_nil]; omega)]

theorem aC4 {l : List Int} {last t : Int} (hi : Inc last l) (hl : l.length ≤ 1099511627776) : vE l t = some (kH t l) := by
  unfold vE xV
  rw [nS (l := l) (body := fun s : List Int × Bool × Int => jS l t s.1 s.2.1 s.2.2) (fun (s : List Int × Bool) i => (s.1, s.2, i))
    (fun s r => if s.2 then .inl (s.1 ++ r, true) else if t ∈ r then .inr l else if (∃ x ∈ r, t < x) then .inl (s.1 ++ kH t r, true) else .inl (s.1 ++ r, false))
    (fun s r => (∃ m, Inc m r) ∧ (s.2 = true → ∀ x ∈ r, t < x) ∧ r.length ≤ 1099511627776 ∧ s.1.length + r.length ≤ 1099511627777 + (if s.2 then 1 else 0)) ([], false) ?_ ?_ ?_]
  · simp only [Bool.false_eq_true, if_false, List.nil_append, Option.bind_some]
    by_cases h1 : t ∈ l
    · simp [h1, GC hi h1]
    · simp only [h1, if_false]
      by_cases h2 : ∃ x ∈ l, t < x
      · simp only [h2, if_true]
        simp [qJ, qL]
      · simp only [h2, if_false]
        have : ∀ x ∈ l, x < t := fun x hx => by
          have h3 : ¬ t < x := fun h => h2 ⟨x, hx, h⟩
          have h4 : x ≠ t := fun h => h1 (h ▸ hx)
          omega
        rw [HD this]
        simp only [Sum.elim_inl, qJ, qL, Bool.not_false, cond_true]
        rw [aM (by simp only [List.length_cons, List.length_nil]; omega)]
  · rintro i a r ⟨out, put⟩ ha ⟨⟨m, hm⟩, h1, h2, h3⟩
    simp only [List.length_cons] at h2 h3
    have hb := aAt (t := t) (put := put) (out := out) ha hl (by split at h3 <;> omega)
    have hab : ∀ x ∈ r, a < x := fun x hx => (hm.2.above x hx).1
    cases put
    · by_cases e : a = t
      · right
        show jS l t out false i = _
        rw [hb]; simp [e]
      · left
        by_cases e2 : t < a
        · have hnt : t ∉ a :: r := fun h => by
            rcases List.mem_cons.1 h with h | h
            · exact e h.symm
            · have := hab t h; omega
          refine ⟨(out ++ [t] ++ [a], true), ?_, ⟨⟨a, hm.2⟩, fun _ x hx => by have := hab x hx; omega, by omega, by simp only [List.length_append, List.length_cons, List.length_nil, Bool.false_eq_true, if_false, if_true] at h3 ⊢; omega⟩, ?_⟩
          · show jS l t out false i = _
            rw [hb]; simp [e, e2]
          · have hex : ∃ x ∈ a :: r, t < x := ⟨a, List.mem_cons_self .., e2⟩
            simp only [if_true, Bool.false_eq_true, if_false, hnt, hex]
            simp [kH, e, e2]
        · refine ⟨(out ++ [a], false), ?_, ⟨⟨a, hm.2⟩, fun h => absurd h (by simp), by omega, by simp only [List.length_append, List.length_cons, List.length_nil, Bool.false_eq_true, if_false] at h3 ⊢; omega⟩, ?_⟩
          · show jS l t out false i = _
            rw [hb]; simp [e, e2]
          · have i1 : (t ∈ a :: r) ↔ t ∈ r := by simp only [List.mem_cons]; constructor; (intro h; rcases h with h | h; exact absurd h.symm e; exact h); exact Or.inr
            have i2 : (∃ x ∈ a :: r, t < x) ↔ (∃ x ∈ r, t < x) := by
              constructor
              · rintro ⟨x, hx, hx'⟩
                rcases List.mem_cons.1 hx with rfl | hx
                · exact absurd hx' e2
                · exact ⟨x, hx, hx'⟩
              · rintro ⟨x, hx, hx'⟩; exact ⟨x, List.mem_cons_of_mem _ hx, hx'⟩
            simp only [Bool.false_eq_true, if_false, i1, i2]
            simp [kH, e, e2]
    · left
      have ht := h1 rfl a (List.mem_cons_self ..)
      refine ⟨(out ++ [a], true), ?_, ⟨⟨a, hm.2⟩, fun _ x hx => h1 rfl x (List.mem_cons_of_mem _ hx), by omega, by simp only [List.length_append, List.length_cons, List.length_nil, if_true] at h3 ⊢; omega⟩, ?_⟩
      · show jS l t out true i = _
        have : a ≠ t := by omega
        rw [hb]; simp [this]
      · simp
  · rintro ⟨out, put⟩ _
    show jS l t out put (l.length : Nat) = _
    simp only [jS, fO, cond_false]
    cases put <;> simp
  · exact ⟨⟨last, hi⟩, fun h => absurd h (by simp), hl, by simp only [List.length_nil]; simp; omega⟩

end Go.Abs
namespace Go.Abs
open Go
def mn (a b : Int) : Int := if b < a then b else a

def parts (v : Int) : List aH → List Int
  | [] => []
  | j :: r => (v + j.Net) :: parts (v + j.Net) r

def vQ (f : List aH) : Int := (f.map fun j => val f j.At).foldl mn (val f (-1))

theorem parts_eq : ∀ {f : List aH} {l v : Int}, pY l f → parts v f = f.map fun j => v + val f j.At
  | [], _, _, _ => rfl
  | j :: r, l, v, h => by
    simp only [parts, List.map_cons]
    rw [parts_eq h.2, gL, if_pos (Int.le_refl _), h.2.CQ (Int.le_refl _), Int.add_zero]
    congr 1
    apply List.map_congr_left
    intro k hk
    have := (h.2.above k hk).1
    rw [gL, if_pos (by omega)]; omega

theorem aAY {j : aH} {r : List aH} (h : pY (-2) (j :: r)) : val (j :: r) (-1) = if j.At = -1 then j.Net else 0 := by
  have := h.1.1
  by_cases e : j.At = -1
  · rw [if_pos e, gL, if_pos (by omega), h.2.CQ (by omega)]; omega
  · rw [if_neg e, vS]
    intro k hk
    rcases List.mem_cons.1 hk with rfl | hk
    · omega
    · have := (h.2.above k hk).1; omega

theorem NS {f : List aH} (hf : gE f = true) (m : Int) (hm : -1125899906842624 ≤ m ∧ m ≤ 1125899906842624) : tL 0 m f (f.length : Nat) 0 = some ((f.map fun j => val f j.At).foldl mn m) := by
  obtain ⟨hl, hr⟩ := lM.1 hf
  unfold tL
  rw [nS (l := f) (body := fun s : Int × Int × Int => nD f (f.length : Nat) s.1 s.2.1 s.2.2) (fun (s : Int × Int) i => (s.1, s.2, i)) (fun s r => (parts s.1 r).foldl mn s.2)
    (fun s r => (∀ j ∈ r, j.Net ≤ 1048576 ∧ -1048576 ≤ j.Net) ∧ r.length ≤ 1024 ∧ s.1 ≤ 1048576 * (1024 - r.length) ∧ -(1048576 * (1024 - r.length)) ≤ s.1) (0, m) ?_ ?_ ?_]
  · simp only [Option.bind_some, tP, parts_eq hr, Int.zero_add]
  · rintro i a r ⟨v, m⟩ ha ⟨h1, h2, h3, h4⟩
    obtain ⟨d1, d2, d3, d4⟩ := idx ha (by omega)
    have hj := h1 a (List.mem_cons_self ..)
    simp only [List.length_cons] at h2 h3 h4
    have hw : IntKind.i64.wrap (v + a.Net) = v + a.Net := dM (by omega) (by omega)
    left
    refine ⟨(v + a.Net, mn m (v + a.Net)), ?_, ⟨fun j hj => h1 j (List.mem_cons_of_mem _ hj), by omega, by simp only; omega, by simp only; omega⟩, rfl⟩
    show nD f (f.length : Nat) v m i = _
    simp only [nD, d1, cond_true, aM d2, d3, d4, hw, mn]
  · rintro ⟨v, m⟩ _
    show nD f (f.length : Nat) v m (f.length : Nat) = _
    simp only [nD, fO, cond_false, parts, List.foldl_nil]
  · exact ⟨SW hf, hl, by simp only; omega, by simp only; omega⟩

theorem aB1 (f : List aH) : vT f = some (if gE f then vQ f else 0) := by
  unfold vT
  rw [MT]
  cases h : gE f
  · simp
  · cases f with
    | nil => simp [vQ, val]
    | cons j r =>
      obtain ⟨hl, hr⟩ := lM.1 h
      have hne : decide (((List.length (j :: r) : Nat) : Int) = 0) = false := by simp; omega
      simp only [Option.bind_some, Bool.not_true, Bool.false_or, hne, cond_false, aM aEp, aDw, if_true]
      have hj := hr.1
      unfold vQ
      rw [aAY hr]
      by_cases e : j.At = -1
      · simp only [e, decide_true, cond_true, if_true, qM]
        exact NS h j.Net (by omega)
      · simp only [e, decide_false, cond_false, if_false, qM]
        exact NS h 0 (by omega)

theorem WS (f : List aH) : tJ f = some (if gE f then vQ f else 0) := by
  unfold tJ
  rw [PU]
  cases h : gE f
  · simp
  · obtain ⟨hl, hr⟩ := lM.1 h
    simp only [Option.bind_some, Bool.not_true, cond_false, CH h, if_true, wZ]
    rw [nS (l := f) (body := fun s : Int × Int => mQ f s.1 s.2) (fun m i => (m, i)) (fun m r => (r.map fun j => val f j.At).foldl mn m) (fun _ _ => True) (val f (-1)) ?_ ?_ trivial]
    · simp [sD, vQ]
    · rintro i a r m ha _
      obtain ⟨d1, d2, d3, d4⟩ := idx ha (by omega)
      left
      refine ⟨mn m (val f a.At), ?_, trivial, rfl⟩
      show mQ f m i = _
      simp only [mQ, sC, d1, cond_true, aM d2, d3, d4, CH h, Option.bind_some, mn]
      by_cases e : val f a.At < m <;> simp [e]
    · intro m _
      show mQ f m (f.length : Nat) = _
      simp only [mQ, fO, cond_false, List.map_nil, List.foldl_nil]

theorem aCY : gE [] = true := by decide

end Go.Abs
namespace Go.Abs
open Go
theorem w1 : IntKind.i64.wrap (0 + 1) = 1 := by rw [dM] <;> omega

theorem w2 : IntKind.i64.wrap (1 + 1) = 2 := by rw [dM] <;> omega

theorem w3 : IntKind.i64.wrap (1 - 1) = 0 := by rw [dM] <;> omega

theorem v0 : IntKind.i64.wrap 0 = 0 := by rw [dM] <;> omega

theorem v1 : IntKind.i64.wrap 1 = 1 := by rw [dM] <;> omega

theorem v2 : IntKind.i64.wrap 2 = 2 := by rw [dM] <;> omega

theorem v3 : IntKind.i64.wrap (-1) = -1 := by rw [dM] <;> omega

end Go.Abs
namespace Go.Abs
open Go
variable {α : Type} [Inhabited α]
noncomputable def pK (f1 : α → Option Bool) (s0 : (List α)) (t7 : Int) (t8 : Int) : Option ((Int) ⊕ (Unit ⊕ Int)) :=
  cond (decide (t8 < t7))
  (bF (0 ≤ t8 ∧ t8 < ((List.length s0 : Nat) : Int)) <|
  (f1 (List.getD s0 (Int.toNat t8) default)).bind fun x2 =>
  cond x2
  (some (.inr (.inr t8)))
  (some (.inl (IntKind.i64.wrap (t8 + (1 : Int))))))
  (some (.inr (.inl ())))

theorem VM {l : List α} {f : α → Option Bool} {g : α → Bool} (hl : l.length ≤ 1099511627776) (hf : ∀ x ∈ l, f x = some (g x)) : ∀ (r : List α) (k : Nat), l.drop k = r → k ≤ l.length →
    ∃ x, lp (fun s => pK f l (l.length : Nat) s) (k : Int) = some x ∧ ((x = .inl () ∧ r.any g = false) ∨ (∃ i : Nat, x = .inr (i : Int) ∧ k ≤ i ∧ i < l.length ∧ r.any g = true ∧ g (l.getD i default) = true ∧ ∀ j, k ≤ j → j < i → g (l.getD j default) = false))
  | [], k, hd, hk => by
    have : k = l.length := by
      have := congrArg List.length hd
      simp only [List.length_drop, List.length_nil] at this; omega
    subst this
    refine ⟨.inl (), cU ?_, Or.inl ⟨rfl, rfl⟩⟩
    show pK f l _ _ = _
    simp only [pK, fO, cond_false]
  | a :: r, k, hd, hk => by
    obtain ⟨h1, h2⟩ := drop_cons hd
    have hlt : k < l.length := (List.getElem?_eq_some_iff.1 h1).1
    obtain ⟨d1, d2, d3, d4⟩ := idx h1 (by omega)
    have hga : l.getD k default = a := by rw [Int.toNat_natCast] at d3; exact d3
    have hb : (fun s => pK f l (l.length : Nat) s) (k : Int) = some (if g a then .inr (.inr (k : Int)) else .inl ((k + 1 : Nat) : Int)) := by
      show pK f l _ _ = _
      simp only [pK, d1, cond_true, aM d2, d3, d4, hf a (List.mem_of_getElem? h1), Option.bind_some]
      cases g a <;> simp
    cases hg : g a
    · rw [hg] at hb
      obtain ⟨x, e, hx⟩ := VM hl hf r (k + 1) h2 (by omega)
      refine ⟨x, by rw [eX hb]; exact e, ?_⟩
      rcases hx with ⟨rfl, h⟩ | ⟨i, rfl, h3, h4, h5, h6, h7⟩
      · exact Or.inl ⟨rfl, by simp [hg, h]⟩
      · refine Or.inr ⟨i, rfl, by omega, h4, by simp [h5], h6, fun j hj hj' => ?_⟩
        by_cases e : j = k
        · subst e; rw [hga, hg]
        · exact h7 j (by omega) hj'
    · rw [hg] at hb
      exact ⟨.inr (k : Int), cU hb, Or.inr ⟨k, rfl, Nat.le_refl _, hlt, by simp [hg], by rw [hga, hg], fun j h h' => by omega⟩⟩

end Go.Abs
namespace Go.Abs
open Go
theorem RJ (x y : ByteArray) : oA x y = decide (x = y) := by
  unfold oA
  rw [ByteArray.toList_eq, ByteArray.toList_eq]
  by_cases h : x = y
  · simp [h]
  · have : x.data.toList ≠ y.data.toList := by
      intro he
      apply h
      cases x; cases y
      congr 1
      exact Array.toList_inj.1 he
    have h2 : (x.data.toList == y.data.toList) = false := by simpa using this
    rw [h2]; simp [h]

theorem veq (a b : aC) : ((decide (a.Kind = b.Kind)) && ((decide (a.Num = b.Num)) && ((oA a.Text b.Text) && true))) = decide (a = b) := by
  rw [RJ]
  obtain ⟨a1, a2, a3⟩ := a
  obtain ⟨b1, b2, b3⟩ := b
  by_cases h1 : a1 = b1 <;> by_cases h2 : a2 = b2 <;> by_cases h3 : a3 = b3 <;> simp [h1, h2, h3]

def EG (v : aC) : Bool := decide (v.Kind = 1) && oA v.Text (⟨#[]⟩ : ByteArray)

def DL (v : aC) : Bool := ((decide (v.Kind = 2)) && (decide (v.Num = 0))) && (decide (((ByteArray.size v.Text : Nat) : Int) ≤ 64))

def tC (v : aC) : Bool := EG v || DL v

def kO (r : List aC) : Bool := decide (r.length ≤ 8) && r.all tC

theorem of_eq (v : aC) : mG v = some (if EG v then (.k_number v.Num, true) else if DL v then (.k_words v.Text, true) else (.none_, false)) := by
  unfold mG EG DL
  cases (decide (v.Kind = 1) && oA v.Text (⟨#[]⟩ : ByteArray)) <;> cases (((decide (v.Kind = 2)) && (decide (v.Num = 0))) && (decide (((ByteArray.size v.Text : Nat) : Int) ≤ 64))) <;> rfl

theorem aDh (v : aC) : xI v = some (tC v) := by
  unfold xI tC
  rw [of_eq]
  cases EG v <;> cases DL v <;> rfl

theorem MI (v : aC) : rA v = some (tC v) := by
  unfold rA tC EG DL
  by_cases h : v.Kind = 1
  · simp [h]
  · simp [h]

theorem WD {l : List aC} {f : aC → Option Bool} {g : aC → Bool} (hl : l.length ≤ 1099511627776) (hf : ∀ x ∈ l, f x = some (g x)) : fN l f = some (l.any g) := by
  unfold fN iZ iR
  obtain ⟨x, e, hx⟩ := VM hl hf l 0 rfl (Nat.zero_le _)
  have e' : lp (fun s => iP f l (l.length : Nat) s) 0 = some x := e
  rw [e']
  rcases hx with ⟨rfl, h⟩ | ⟨i, rfl, _, _, h, _⟩
  · simp [fV, h]
  · simp [h]

theorem ON (r : List aC) : vB r = some (kO r) := by
  unfold vB kO
  by_cases h : r.length ≤ 8
  · have h1 : decide ((8 : Int) < ((r.length : Nat) : Int)) = false := by simp; omega
    rw [h1, cond_false, WD (g := fun v => !tC v) (by omega) (fun x _ => by simp [xF, aDh])]
    simp only [Option.bind_some, h, decide_true, Bool.true_and]
    congr 1
    rw [List.all_eq_not_any_not]
  · have h1 : decide ((8 : Int) < ((r.length : Nat) : Int)) = true := by simp; omega
    rw [h1, cond_true]
    simp [h]

theorem FM (r : List aC) (hl : r.length ≤ 1099511627776 * 16) : rF r = some (kO r) := by
  unfold rF yV
  have hl9 : (r.take 9).length ≤ 9 := by simp; omega
  rw [CS (l := r.take 9) (fun i => i) (fun v => !tC v) (.inr false) (.inl ()) ?_ ?_]
  · unfold kO
    by_cases h : r.length ≤ 8
    · have ht : r.take 9 = r := List.take_of_length_le (by omega)
      rw [ht, List.all_eq_not_any_not]
      cases h1 : (r.any fun v => !tC v)
      · have : ((r.length : Nat) : Int) ≤ 8 := by omega
        simp [rN, this, h]
      · simp
    · cases h1 : ((r.take 9).any fun v => !tC v)
      · have : ¬ ((r.length : Nat) : Int) ≤ 8 := by omega
        simp [rN, this, h]
      · simp [h]
  · intro i a ha
    have hi : i < (r.take 9).length := (List.getElem?_eq_some_iff.1 ha).1
    have hi2 : i < r.length := by simp at hi; omega
    have ha2 : r[i]? = some a := by
      rw [List.getElem?_take] at ha
      split at ha
      · exact ha
      · cases ha
    obtain ⟨d1, d2, d3, d4⟩ := idx ha2 (by omega)
    have h9 : decide ((i : Int) < 9) = true := by simp; omega
    show pP r i = _
    simp only [pP, d1, h9, Bool.and_self, cond_true, aM d2, d3, d4, MI, Option.bind_some]
    cases tC a <;> simp
  · show pP r _ = _
    have : ((decide ((((r.take 9).length : Nat) : Int) < ((r.length : Nat) : Int))) && (decide ((((r.take 9).length : Nat) : Int) < 9))) = false := by
      rw [Bool.and_eq_false_iff]
      by_cases h : r.length ≤ 8
      · left; simp; omega
      · right; simp; omega
    simp only [pP, this, cond_false]

theorem YR {α : Type} [DecidableEq α] {f g : List α} {body : Int → Option (Int ⊕ (Unit ⊕ Bool))} (he : f.length = g.length)
    (hb : ∀ (i : Nat) a b, f[i]? = some a → g[i]? = some b → body i = some (if a = b then .inl ((i + 1 : Nat) : Int) else .inr (.inr false)))
    (hend : body (f.length : Nat) = some (.inr (.inl ()))) : ∀ (m k : Nat), f.length - k = m → k ≤ f.length → lp body (k : Int) = some (if f.drop k = g.drop k then .inl () else .inr false)
  | 0, k, hm, hk => by
    have : k = f.length := by omega
    subst this
    rw [List.drop_length, he, List.drop_length, if_pos rfl]
    rw [← he]
    exact cU hend
  | m + 1, k, hm, hk => by
    have h1 : k < f.length := by omega
    have h2 : k < g.length := by omega
    have hbk := hb k _ _ (List.getElem?_eq_getElem h1) (List.getElem?_eq_getElem h2)
    have e1 : f.drop k = f[k] :: f.drop (k + 1) := List.drop_eq_getElem_cons h1
    have e2 : g.drop k = g[k] :: g.drop (k + 1) := List.drop_eq_getElem_cons h2
    have hiff : (f.drop k = g.drop k) ↔ (f[k] = g[k] ∧ f.drop (k + 1) = g.drop (k + 1)) := by rw [e1, e2, List.cons.injEq]
    by_cases h : f[k] = g[k]
    · rw [if_pos h] at hbk
      rw [eX hbk, YR he hb hend m (k + 1) (by omega) (by omega)]
      simp only [hiff, h, true_and]
    · rw [if_neg h] at hbk
      rw [cU hbk]
      simp only [hiff, h, false_and, if_false]

theorem aA0 {α : Type} {f g : List α} (h : f.length ≠ g.length) : (!decide (((f.length : Nat) : Int) = ((g.length : Nat) : Int))) = true := by simp; omega

theorem LU {α : Type} {f g : List α} (h : f.length = g.length) : (!decide (((f.length : Nat) : Int) = ((g.length : Nat) : Int))) = false := by simp [h]

theorem OF (a b : List aC) (hl : a.length ≤ 17592186044416) : sN a b = some (decide (a = b)) := by
  unfold sN kC
  by_cases he : a.length = b.length
  · rw [LU he, cond_false]
    unfold jX
    have := YR (f := a) (g := b) (body := fun s => fP a b (a.length : Nat) s) he ?_ ?_ a.length 0 rfl (Nat.zero_le _)
    · simp only [Int.natCast_zero, List.drop_zero] at this
      rw [this]
      by_cases h : a = b <;> simp [h, iB]
    · intro i x y hx hy
      obtain ⟨d1, d2, d3, d4⟩ := idx hx (by omega)
      obtain ⟨_, e2, e3, _⟩ := idx hy (by omega)
      simp only [fP, d1, cond_true, aM d2, aM e2, d3, e3, d4, veq]
      by_cases h : x = y <;> simp [h]
    · simp only [fP, fO, cond_false]
  · rw [aA0 he, cond_true]
    have : a ≠ b := fun h => he (by rw [h])
    simp [this]

theorem BE (a b : List aC) (hl : a.length ≤ 17592186044416) : pR a b = some (decide (a = b)) := by
  unfold pR
  by_cases he : a.length = b.length
  · rw [LU he, cond_false]
    unfold yE
    have := YR (f := a) (g := b) (body := fun s => qN a b s) he ?_ ?_ a.length 0 rfl (Nat.zero_le _)
    · simp only [Int.natCast_zero, List.drop_zero] at this
      rw [this]
      by_cases h : a = b <;> simp [h, tS]
    · intro i x y hx hy
      obtain ⟨d1, d2, d3, d4⟩ := idx hx (by omega)
      obtain ⟨_, e2, e3, _⟩ := idx hy (by omega)
      simp only [qN, d1, cond_true, aM d2, aM e2, d3, e3, d4, veq]
      by_cases h : x = y <;> simp [h]
    · simp only [qN, fO, cond_false]
  · rw [aA0 he, cond_true]
    have : a ≠ b := fun h => he (by rw [h])
    simp [this]

structure IW {α : Type} (c : α → α → Int) : Prop where
  eq : ∀ a b, c a b = 0 ↔ a = b
  anti : ∀ a b, c a b < 0 ↔ 0 < c b a
  trans : ∀ a b d, c a b < 0 → c b d < 0 → c a d < 0

def oH (x y : Int) : Int := if x < y then -1 else if y < x then 1 else 0

theorem CV : IW oH where
  eq a b := by unfold oH; (repeat' split) <;> omega
  anti a b := by unfold oH; (repeat' split) <;> omega
  trans a b d := by unfold oH; (repeat' split) <;> omega

def iU {α : Type} [DecidableEq α] (c : α → α → Int) : List α → List α → Int
  | [], [] => 0
  | [], _ :: _ => -1
  | _ :: _, [] => 1
  | a :: r, b :: s => if a = b then iU c r s else c a b

theorem IW.list {α : Type} [DecidableEq α] {c : α → α → Int} (h : IW c) : IW (iU c) where
  eq := by
    intro a
    induction a with
    | nil => intro b; cases b <;> simp [iU]
    | cons x r ih =>
      intro b
      cases b with
      | nil => simp [iU]
      | cons y s =>
        unfold iU
        split
        · rename_i e; subst e; rw [ih]; simp
        · rename_i e
          have := h.eq x y
          constructor
          · intro h0; exact absurd (this.1 h0) e
          · intro h0; cases h0; exact absurd rfl e
  anti := by
    intro a
    induction a with
    | nil => intro b; cases b <;> simp [iU]
    | cons x r ih =>
      intro b
      cases b with
      | nil => simp [iU]
      | cons y s =>
        unfold iU
        by_cases e : x = y
        · subst e; simp only [if_true]; exact ih s
        · rw [if_neg e, if_neg (fun e' => e e'.symm)]; exact h.anti x y
  trans := by
    intro a
    induction a with
    | nil =>
      intro b d
      cases b <;> cases d <;> simp [iU]
    | cons x r ih =>
      intro b d
      cases b with
      | nil => simp [iU]
      | cons y s =>
        cases d with
        | nil => simp [iU]
        | cons z t =>
          unfold iU
          by_cases e1 : x = y
          · subst e1
            rw [if_pos rfl]
            by_cases e2 : x = z
            · subst e2; rw [if_pos rfl, if_pos rfl]; exact ih s t
            · rw [if_neg e2, if_neg e2]; exact fun _ h => h
          · rw [if_neg e1]
            by_cases e2 : y = z
            · have hz : ¬ x = z := fun e => e1 (e.trans e2.symm)
              intro h _
              rw [if_neg hz, ← e2]; exact h
            · rw [if_neg e2]
              intro h1 h2
              by_cases e3 : x = z
              · subst e3
                have h3 := (h.anti x y).1 h1
                omega
              · rw [if_neg e3]; exact h.trans x y z h1 h2

def BL (a b : UInt8) : Int := if a < b then -1 else if b < a then 1 else 0

theorem KS : IW BL where
  eq a b := by
    unfold BL
    constructor
    · intro h
      split at h
      · cases h
      · split at h
        · cases h
        · rename_i h1 h2
          rw [UInt8.lt_iff_toNat_lt] at h1 h2
          exact UInt8.toNat_inj.1 (by omega)
    · rintro rfl
      have : ¬ a < a := by rw [UInt8.lt_iff_toNat_lt]; omega
      simp [this]
  anti a b := by
    unfold BL
    simp only [UInt8.lt_iff_toNat_lt]
    (repeat' split) <;> omega
  trans a b d := by
    unfold BL
    simp only [UInt8.lt_iff_toNat_lt]
    (repeat' split) <;> omega

theorem DW : ∀ (a b : List UInt8), Go.Lib.compareBytes a b = iU BL a b
  | [], [] => rfl
  | [], _ :: _ => rfl
  | _ :: _, [] => rfl
  | a :: r, b :: s => by
    unfold Go.Lib.compareBytes iU
    rw [DW r s]
    by_cases e : a = b
    · subst e
      have : ¬ a < a := by rw [UInt8.lt_iff_toNat_lt]; omega
      simp [this]
    · rw [if_neg e]
      unfold BL
      have : ¬ (¬ a < b ∧ ¬ b < a) := by
        rintro ⟨h1, h2⟩
        rw [UInt8.lt_iff_toNat_lt] at h1 h2
        exact e (UInt8.toNat_inj.1 (by omega))
      by_cases h1 : a < b
      · simp [h1]
      · have h2 : b < a := Classical.byContradiction fun h2 => this ⟨h1, h2⟩
        simp [h1, h2]

def PB (a b : ByteArray) : Int := iU BL a.data.toList b.data.toList

theorem aDf (a b : ByteArray) : OS a b = PB a b := DW _ _

theorem data_inj {x y : ByteArray} (h : x.data.toList = y.data.toList) : x = y := by
  cases x; cases y
  congr 1
  exact Array.toList_inj.1 h

theorem GU : IW PB where
  eq a b := by unfold PB; rw [(KS.list).eq]; exact ⟨data_inj, fun h => by rw [h]⟩
  anti a b := (KS.list).anti _ _
  trans a b d := (KS.list).trans _ _ _

def yK (a b : aC) : Int := if a.Kind = b.Kind then (if a.Num = b.Num then PB a.Text b.Text else oH a.Num b.Num) else oH a.Kind b.Kind

theorem GP : IW yK where
  eq a b := by
    obtain ⟨a1, a2, a3⟩ := a
    obtain ⟨b1, b2, b3⟩ := b
    unfold yK
    simp only [aC.mk.injEq]
    by_cases h1 : a1 = b1
    · by_cases h2 : a2 = b2
      · simp [h1, h2, GU.eq]
      · simp [h1, h2, CV.eq]
    · simp [h1, CV.eq]
  anti a b := by
    unfold yK
    by_cases h1 : a.Kind = b.Kind
    · rw [if_pos h1, if_pos h1.symm]
      by_cases h2 : a.Num = b.Num
      · rw [if_pos h2, if_pos h2.symm]; exact GU.anti _ _
      · rw [if_neg h2, if_neg (fun h => h2 h.symm)]; exact CV.anti _ _
    · rw [if_neg h1, if_neg (fun h => h1 h.symm)]; exact CV.anti _ _
  trans a b d := by
    unfold yK
    intro h1 h2
    have lt : ∀ {x y : Int}, oH x y < 0 → x < y := fun {x y} h => by unfold oH at h; split at h <;> (try split at h) <;> omega
    have mk : ∀ {x y : Int}, x < y → oH x y < 0 := fun {x y} h => by unfold oH; rw [if_pos h]; omega
    by_cases e1 : a.Kind = b.Kind
    · rw [if_pos e1] at h1
      by_cases e2 : b.Kind = d.Kind
      · rw [if_pos e2] at h2
        rw [if_pos (e1.trans e2)]
        by_cases f1 : a.Num = b.Num
        · rw [if_pos f1] at h1
          by_cases f2 : b.Num = d.Num
          · rw [if_pos f2] at h2
            rw [if_pos (f1.trans f2)]
            exact GU.trans _ _ _ h1 h2
          · rw [if_neg f2] at h2
            rw [f1, if_neg f2]; exact h2
        · rw [if_neg f1] at h1
          have g1 := lt h1
          by_cases f2 : b.Num = d.Num
          · rw [← f2, if_neg f1]; exact h1
          · rw [if_neg f2] at h2
            have g2 := lt h2
            rw [if_neg (by omega)]
            exact mk (by omega)
      · rw [if_neg e2] at h2
        rw [e1, if_neg e2]; exact h2
    · rw [if_neg e1] at h1
      have g1 := lt h1
      by_cases e2 : b.Kind = d.Kind
      · rw [← e2, if_neg e1]; exact h1
      · rw [if_neg e2] at h2
        have g2 := lt h2
        rw [if_neg (by omega)]
        exact mk (by omega)

def iW (a b : List aC) : Int := iU yK a b

theorem rB : IW iW := GP.list

end Go.Abs
namespace Go.Abs
open Go
theorem aBl (x y : Int) : oU x y = some (oH x y) := by
  unfold oU lV oH
  by_cases h1 : x < y
  · simp [h1]
  · by_cases h2 : y < x <;> simp [h1, h2]

theorem aAV (x y : Int) : gM x y = some (oH x y) := by
  unfold gM lC oH
  by_cases h1 : x < y
  · simp [h1]
  · by_cases h2 : y < x <;> simp [h1, h2]

theorem BY {v : aC} (h : EG v = true) : v.Kind = 1 ∧ v.Text = (⟨#[]⟩ : ByteArray) := by
  simp only [EG, RJ, Bool.and_eq_true, decide_eq_true_eq] at h; exact h

theorem AJ {v : aC} (h : DL v = true) : v.Kind = 2 ∧ v.Num = 0 ∧ v.Text.size ≤ 64 := by
  simp only [DL, Bool.and_eq_true, decide_eq_true_eq] at h; exact ⟨h.1.1, h.1.2, by omega⟩

theorem JJ {v : aC} (h : tC v = true) : EG v = true ∨ (EG v = false ∧ DL v = true) := by
  unfold tC at h
  cases hn : EG v
  · rw [hn] at h; exact .inr ⟨rfl, by simpa using h⟩
  · exact .inl rfl

theorem aAA (a : ByteArray) : PB a a = 0 := (GU.eq a a).2 rfl

theorem DX (a : Int) : oH a a = 0 := (CV.eq a a).2 rfl

theorem aBf {a b : aC} (ha : tC a = true) (hb : tC b = true) : qQ a b = some (yK a b) := by
  unfold qQ
  simp only [of_eq, Option.bind_some]
  rcases JJ ha with h1 | ⟨h1, h1'⟩ <;> rcases JJ hb with h2 | ⟨h2, h2'⟩
  · obtain ⟨k1, t1⟩ := BY h1
    obtain ⟨k2, t2⟩ := BY h2
    simp only [h1, h2, if_true, Bool.not_true, Bool.or_self, cond_false, aAV, Option.bind_some]
    unfold yK
    rw [k1, k2, t1, t2, if_pos rfl, aAA]
    by_cases hn : a.Num = b.Num
    · rw [if_pos hn, hn, DX]
    · rw [if_neg hn]
  · obtain ⟨k1, t1⟩ := BY h1
    obtain ⟨k2, n2, _⟩ := AJ h2'
    simp only [h1, h2, h2', if_true, Bool.false_eq_true, if_false, Bool.not_true, Bool.or_self, cond_false]
    unfold yK
    rw [k1, k2]; rfl
  · obtain ⟨k1, n1, _⟩ := AJ h1'
    obtain ⟨k2, t2⟩ := BY h2
    simp only [h1, h1', h2, if_true, Bool.false_eq_true, if_false, Bool.not_true, Bool.or_self, cond_false]
    unfold yK
    rw [k1, k2]; rfl
  · obtain ⟨k1, n1, _⟩ := AJ h1'
    obtain ⟨k2, n2, _⟩ := AJ h2'
    simp only [h1, h1', h2, h2', if_true, Bool.false_eq_true, if_false, Bool.not_true, Bool.or_self, cond_false]
    unfold yK nB kG
    rw [k1, k2, n1, n2, if_pos rfl, if_pos rfl]
    simp [aDf]

theorem zY {r : List aC} (h : kO r = true) : r.length ≤ 8 ∧ ∀ v ∈ r, tC v = true := by
  simp only [kO, Bool.and_eq_true, decide_eq_true_eq, List.all_eq_true] at h; exact h

theorem UD {a b : List aC} {k : Nat} (hk : k = a.length ∨ k = b.length) (h1 : k ≤ a.length) (h2 : k ≤ b.length) : iW (a.drop k) (b.drop k) = oH a.length b.length := by
  rcases hk with rfl | rfl
  · rw [List.drop_length]
    by_cases h : a.length = b.length
    · rw [h, List.drop_length, DX]; rfl
    · rw [List.drop_eq_getElem_cons (by omega)]
      show (-1 : Int) = _
      unfold oH; rw [if_pos (by omega)]
  · rw [List.drop_length]
    by_cases h : a.length = b.length
    · rw [← h, List.drop_length, DX]; rfl
    · rw [List.drop_eq_getElem_cons (by omega)]
      show (1 : Int) = _
      unfold oH; rw [if_neg (by omega), if_pos (by omega)]

theorem YG {a b : List aC} (hl : a.length ≤ 8) (hlb : b.length ≤ 8) (n : Nat) (hn : n = min a.length b.length) : ∀ (m k : Nat), n - k = m → k ≤ n →
    ∃ x, lp (fun s : Int × Int => cM (fun st y0 => (kN y0 st b).bind fun o => some (o.2, o.1)) (a.take n) (n : Nat) s.1 s.2) ((k : Int) - 1, (k : Int)) = some x ∧
      ((∃ sg, x = .inl sg ∧ iW (a.drop k) (b.drop k) = oH a.length b.length) ∨
        (∃ i : Nat, x = .inr ((i : Int), (i : Int)) ∧ i < a.length ∧ i < b.length ∧ iW (a.drop k) (b.drop k) = yK (a.getD i default) (b.getD i default)))
  | 0, k, hm, hk => by
    have : k = n := by omega
    subst this
    refine ⟨.inl ((k : Int) - 1), cU ?_, .inl ⟨_, rfl, UD (by omega) (by omega) (by omega)⟩⟩
    show cM _ _ _ _ _ = _
    simp only [cM, fO, cond_false]
  | m + 1, k, hm, hk => by
    have h1 : k < a.length := by omega
    have h2 : k < b.length := by omega
    have ht : (a.take n)[k]? = some a[k] := by
      rw [List.getElem?_take_of_lt (by omega)]; exact List.getElem?_eq_getElem h1
    obtain ⟨d1, d2, d3, d4⟩ := idx ht (by simp; omega)
    have hlt : (a.take n).length = n := by simp; omega
    rw [hlt] at d1 d2
    obtain ⟨_, e2, e3, _⟩ := idx (List.getElem?_eq_getElem h2) (by omega)
    have hw : IntKind.i64.wrap ((k : Int) - 1 + 1) = (k : Int) := by rw [dM (by omega) (by omega)]; omega
    have hb : (fun s : Int × Int => cM (fun st y0 => (kN y0 st b).bind fun o => some (o.2, o.1)) (a.take n) (n : Nat) s.1 s.2) ((k : Int) - 1, (k : Int)) =
        some (if a[k] = b[k] then .inl ((k : Int), ((k + 1 : Nat) : Int)) else .inr (.inr ((k : Int), (k : Int)))) := by
      show cM _ _ _ _ _ = _
      simp only [cM, d1, cond_true, hlt, aM d2, d3, d4, kN, hw, aM e2, e3, veq, Option.bind_some]
      by_cases h : a[k] = b[k] <;> simp [h]
    have ea : a.drop k = a[k] :: a.drop (k + 1) := List.drop_eq_getElem_cons h1
    have eb : b.drop k = b[k] :: b.drop (k + 1) := List.drop_eq_getElem_cons h2
    by_cases h : a[k] = b[k]
    · rw [if_pos h] at hb
      obtain ⟨x, e, hx⟩ := YG hl hlb n hn m (k + 1) (by omega) (by omega)
      have hc : iW (a.drop k) (b.drop k) = iW (a.drop (k + 1)) (b.drop (k + 1)) := by
        rw [ea, eb]; unfold iW; rw [iU, if_pos h]
      refine ⟨x, ?_, by rw [hc]; exact hx⟩
      rw [eX hb]
      rw [show ((k + 1 : Nat) : Int) - 1 = (k : Int) by omega] at e
      exact e
    · rw [if_neg h] at hb
      refine ⟨_, cU hb, .inr ⟨k, rfl, h1, h2, ?_⟩⟩
      rw [ea, eb]; unfold iW; rw [iU, if_neg h]
      simp [List.getD_eq_getElem?_getD, h1, h2]

theorem aBz (a b : List aC) : tF a b = some (if kO a && kO b then iW a b else 0) := by
  unfold tF
  rw [ON]
  simp only [Option.bind_some]
  cases ha : kO a
  · simp [cT]
  · simp only [Bool.not_true, Bool.not_false, cT, cond_true, ON, Option.bind_some, Bool.false_or]
    cases hb : kO b
    · simp
    · obtain ⟨la, ma⟩ := zY ha
      obtain ⟨lb, mb⟩ := zY hb
      have hif : (if ((List.length b : Nat) : Int) < ((List.length a : Nat) : Int) then ((List.length b : Nat) : Int) else ((List.length a : Nat) : Int)) = ((min a.length b.length : Nat) : Int) := by split <;> omega
      have hlt : (a.take (min a.length b.length)).length = min a.length b.length := by rw [List.length_take]; omega
      simp only [Bool.not_true, cond_false, hif, Int.toNat_natCast, uP, Option.bind_some, iL, iJ, hlt, Bool.and_self, if_true]
      rw [aM ⟨by omega, by omega⟩]
      obtain ⟨x, e, hx⟩ := YG (a := a) (b := b) la lb _ rfl _ 0 rfl (Nat.zero_le _)
      have e' : lp (fun s : Int × Int => cM (fun st y0 => (kN y0 st b).bind fun o => some (o.2, o.1)) (a.take (min a.length b.length)) (min a.length b.length : Nat) s.1 s.2) ((-1 : Int), (0 : Int)) = some x := e
      rw [e']
      simp only [List.drop_zero] at hx
      rcases hx with ⟨sg, rfl, h⟩ | ⟨i, rfl, h1, h2, h⟩
      · simp [fM, aBl, h]
      · have hi : decide ((i : Int) < 0) = false := by simp
        simp only [Option.bind_some, Sum.elim_inr, hi, cond_false, Int.toNat_natCast]
        rw [aM ⟨by omega, by omega⟩, aM ⟨by omega, by omega⟩]
        have g1 : a.getD i default ∈ a := by simp [List.getD_eq_getElem?_getD, h1]
        have g2 : b.getD i default ∈ b := by simp [List.getD_eq_getElem?_getD, h2]
        rw [aBf (ma _ g1) (mb _ g2), h]
        simp only [Option.bind_some]

theorem aCx {s : ByteArray} {i : Nat} (h : i < s.data.toList.length) : bt s (i : Int) = ((s.data.toList[i]).toNat : Int) := by
  have h' : i < s.data.size := by simpa using h
  unfold bt
  simp only [Int.toNat_natCast, Array.getElem_toList]
  rw [Array.getD_eq_getD_getElem?, Array.getElem?_eq_getElem h']
  rfl

theorem UO {a b : aC} (ha : a.Text.size ≤ 64) (hb : b.Text.size ≤ 64) : ∀ (m k : Nat), min a.Text.size b.Text.size - k = m → k ≤ min a.Text.size b.Text.size →
    ∃ x, lp (fun s => jA a b s) (k : Int) = some x ∧
      ((x = .inl () ∧ iU BL (a.Text.data.toList.drop k) (b.Text.data.toList.drop k) = oH a.Text.size b.Text.size) ∨ (∃ v, x = .inr v ∧ iU BL (a.Text.data.toList.drop k) (b.Text.data.toList.drop k) = v))
  | 0, k, hm, hk => by
    have hsa : a.Text.data.toList.length = a.Text.size := by rw [Array.length_toList]; rfl
    have hsb : b.Text.data.toList.length = b.Text.size := by rw [Array.length_toList]; rfl
    refine ⟨.inl (), cU ?_, .inl ⟨rfl, ?_⟩⟩
    · show jA a b _ = _
      have : ((decide ((k : Int) < ((ByteArray.size a.Text : Nat) : Int))) && (decide ((k : Int) < ((ByteArray.size b.Text : Nat) : Int)))) = false := by
        rw [Bool.and_eq_false_iff]
        simp only [decide_eq_false_iff_not]
        omega
      simp only [jA, this, cond_false]
    · by_cases h1 : a.Text.size ≤ k
      · rw [List.drop_eq_nil_of_le (by omega)]
        by_cases h2 : b.Text.size ≤ k
        · rw [List.drop_eq_nil_of_le (by omega)]
          have : a.Text.size = b.Text.size := by omega
          rw [this, DX]; rfl
        · rw [List.drop_eq_getElem_cons (by omega)]
          show (-1 : Int) = _
          unfold oH; rw [if_pos (by omega)]
      · have h2 : b.Text.size ≤ k := by omega
        rw [@List.drop_eq_nil_of_le _ b.Text.data.toList k (by omega), List.drop_eq_getElem_cons (by omega)]
        show (1 : Int) = _
        unfold oH; rw [if_neg (by omega), if_pos (by omega)]
  | m + 1, k, hm, hk => by
    have hsa : a.Text.data.toList.length = a.Text.size := by rw [Array.length_toList]; rfl
    have hsb : b.Text.data.toList.length = b.Text.size := by rw [Array.length_toList]; rfl
    have h1 : k < a.Text.data.toList.length := by omega
    have h2 : k < b.Text.data.toList.length := by omega
    have c1 : decide ((k : Int) < ((ByteArray.size a.Text : Nat) : Int)) = true := by simp; omega
    have c2 : decide ((k : Int) < ((ByteArray.size b.Text : Nat) : Int)) = true := by simp; omega
    have p1 : 0 ≤ (k : Int) ∧ (k : Int) < ((ByteArray.size a.Text : Nat) : Int) := ⟨by omega, by omega⟩
    have p2 : 0 ≤ (k : Int) ∧ (k : Int) < ((ByteArray.size b.Text : Nat) : Int) := ⟨by omega, by omega⟩
    have hw : IntKind.i64.wrap ((k : Int) + 1) = ((k + 1 : Nat) : Int) := by rw [dM (by omega) (by omega)]; omega
    have ea := List.drop_eq_getElem_cons h1
    have eb := List.drop_eq_getElem_cons h2
    have hb' : jA a b (k : Int) = some (if a.Text.data.toList[k] = b.Text.data.toList[k] then .inl ((k + 1 : Nat) : Int) else .inr (.inr (BL a.Text.data.toList[k] b.Text.data.toList[k]))) := by
      simp only [jA, c1, c2, Bool.and_self, cond_true, aM p1, aM p2, aCx h1, aCx h2, hw]
      generalize a.Text.data.toList[k] = x
      generalize b.Text.data.toList[k] = y
      by_cases e : x = y
      · subst e; simp
      · have e' : ¬ ((x.toNat : Int) = (y.toNat : Int)) := fun h => e (UInt8.toNat_inj.1 (by omega))
        simp only [e', decide_false, Bool.not_false, cond_true, if_neg e]
        unfold BL
        simp only [UInt8.lt_iff_toNat_lt]
        by_cases l : x.toNat < y.toNat
        · have : ((x.toNat : Int) < (y.toNat : Int)) := by omega
          simp [l]
        · have l2 : y.toNat < x.toNat := by
            rcases Nat.lt_or_ge y.toNat x.toNat with h | h
            · exact h
            · exact absurd (UInt8.toNat_inj.1 (by omega)) e
          simp [l, l2]
    by_cases e : a.Text.data.toList[k] = b.Text.data.toList[k]
    · rw [if_pos e] at hb'
      obtain ⟨x, hx1, hx2⟩ := UO ha hb m (k + 1) (by omega) (by omega)
      refine ⟨x, by rw [eX (show (fun s => jA a b s) (k : Int) = _ from hb')]; exact hx1, ?_⟩
      rw [ea, eb, iU, if_pos e]; exact hx2
    · rw [if_neg e] at hb'
      refine ⟨_, cU (show (fun s => jA a b s) (k : Int) = _ from hb'), .inr ⟨_, rfl, ?_⟩⟩
      rw [ea, eb, iU, if_neg e]

theorem QX {v : aC} (h : tC v = true) : v.Text.size ≤ 64 := by
  rcases JJ h with h | ⟨_, h⟩
  · rw [(BY h).2]; decide
  · exact (AJ h).2.2

theorem RH {v : aC} (h : tC v = true) : v.Kind = 1 ∨ v.Kind = 2 := by
  rcases JJ h with h | ⟨_, h⟩
  · exact .inl (BY h).1
  · exact .inr (AJ h).1

theorem UY {a b : aC} (ha : tC a = true) (hb : tC b = true) : qW a b = some (yK a b) := by
  unfold qW
  simp only [MI, ha, hb, Option.bind_some, Bool.not_true, Bool.not_false, cT, cond_true, Bool.or_self, cond_false]
  unfold yK
  by_cases hk : a.Kind = b.Kind
  · rw [if_pos hk]
    by_cases hn : a.Num = b.Num
    · rw [if_pos hn]
      simp only [hk, hn, decide_true, Bool.not_true, cond_false, sW]
      obtain ⟨x, e, hx⟩ := UO (QX ha) (QX hb) _ 0 rfl (Nat.zero_le _)
      simp only [Int.natCast_zero, List.drop_zero] at e hx
      rw [e]
      have ht : PB a.Text b.Text = iU BL a.Text.data.toList b.Text.data.toList := rfl
      rcases hx with ⟨rfl, h⟩ | ⟨v, rfl, h⟩
      · rw [ht, h]
        simp only [Option.bind_some, Sum.elim_inl, pT]
        unfold oH
        by_cases h1 : a.Text.size = b.Text.size
        · have h1' : ((a.Text.size : Nat) : Int) = ((b.Text.size : Nat) : Int) := by omega
          simp [h1']
        · have h1' : ¬ ((a.Text.size : Nat) : Int) = ((b.Text.size : Nat) : Int) := by omega
          by_cases h2 : ((a.Text.size : Nat) : Int) < ((b.Text.size : Nat) : Int)
          · simp only [h1', h2, decide_false, decide_true, Bool.not_false, cond_true, if_true]
          · have h3 : ((b.Text.size : Nat) : Int) < ((a.Text.size : Nat) : Int) := by omega
            simp only [h1', h2, h3, decide_false, Bool.not_false, cond_true, cond_false, if_true, if_false]
      · rw [ht, h]; rfl
    · rw [if_neg hn]
      simp only [hk, hn, decide_true, decide_false, Bool.not_true, Bool.not_false, cond_false, cond_true]
      unfold oH
      by_cases h1 : a.Num < b.Num
      · simp [h1]
      · have h2 : b.Num < a.Num := by omega
        simp [h1, h2]
  · rw [if_neg hk]
    simp only [hk, decide_false, Bool.not_false, cond_true]
    rcases RH ha with h1 | h1 <;> rcases RH hb with h2 | h2
    · exact absurd (h1.trans h2.symm) hk
    · rw [h1, h2]; rfl
    · rw [h1, h2]; rfl
    · exact absurd (h1.trans h2.symm) hk

theorem PO {a b : List aC} (ha : kO a = true) (hb : kO b = true) : ∀ (m k : Nat), min a.length b.length - k = m → k ≤ min a.length b.length →
    ∃ x, lp (fun s => jD a b s) (k : Int) = some x ∧ ((x = .inl () ∧ iW (a.drop k) (b.drop k) = oH a.length b.length) ∨ (∃ v, x = .inr v ∧ iW (a.drop k) (b.drop k) = v))
  | 0, k, hm, hk => by
    refine ⟨.inl (), cU ?_, .inl ⟨rfl, UD (by omega) (by omega) (by omega)⟩⟩
    show jD a b _ = _
    have : ((decide ((k : Int) < ((a.length : Nat) : Int))) && (decide ((k : Int) < ((b.length : Nat) : Int)))) = false := by
      rw [Bool.and_eq_false_iff]
      simp only [decide_eq_false_iff_not]
      omega
    simp only [jD, this, cond_false]
  | m + 1, k, hm, hk => by
    obtain ⟨la, ma⟩ := zY ha
    obtain ⟨lb, mb⟩ := zY hb
    have h1 : k < a.length := by omega
    have h2 : k < b.length := by omega
    obtain ⟨d1, d2, d3, d4⟩ := idx (List.getElem?_eq_getElem h1) (by omega)
    obtain ⟨e1, e2, e3, _⟩ := idx (List.getElem?_eq_getElem h2) (by omega)
    have ea := List.drop_eq_getElem_cons h1
    have eb := List.drop_eq_getElem_cons h2
    have hb' : jD a b (k : Int) = some (if a[k] = b[k] then .inl ((k + 1 : Nat) : Int) else .inr (.inr (yK a[k] b[k]))) := by
      simp only [jD, d1, e1, Bool.and_self, cond_true, aM d2, aM e2, d3, e3, d4, UY (ma _ (List.getElem_mem h1)) (mb _ (List.getElem_mem h2)), Option.bind_some]
      by_cases h : a[k] = b[k]
      · have := (GP.eq a[k] b[k]).2 h
        simp [h, (GP.eq b[k] b[k]).2 rfl]
      · have : ¬ yK a[k] b[k] = 0 := fun h' => h ((GP.eq _ _).1 h')
        simp [h, this]
    by_cases h : a[k] = b[k]
    · rw [if_pos h] at hb'
      obtain ⟨x, hx1, hx2⟩ := PO ha hb m (k + 1) (by omega) (by omega)
      refine ⟨x, by rw [eX (show (fun s => jD a b s) (k : Int) = _ from hb')]; exact hx1, ?_⟩
      have hc : iW (a.drop k) (b.drop k) = iW (a.drop (k + 1)) (b.drop (k + 1)) := by
        rw [ea, eb]; unfold iW; rw [iU, if_pos h]
      rw [hc]; exact hx2
    · rw [if_neg h] at hb'
      refine ⟨_, cU (show (fun s => jD a b s) (k : Int) = _ from hb'), .inr ⟨_, rfl, ?_⟩⟩
      rw [ea, eb]; unfold iW; rw [iU, if_neg h]

theorem HS (a b : List aC) (hla : a.length ≤ 17592186044416) (hlb : b.length ≤ 17592186044416) : oK a b = some (if kO a && kO b then iW a b else 0) := by
  unfold oK
  rw [FM a (by omega)]
  simp only [Option.bind_some]
  cases ha : kO a
  · simp [cT]
  · simp only [Bool.not_true, Bool.not_false, cT, cond_true, FM b (by omega), Option.bind_some, Bool.false_or]
    cases hb : kO b
    · simp
    · simp only [Bool.not_true, cond_false, sM, Bool.and_self, if_true]
      obtain ⟨x, e, hx⟩ := PO ha hb _ 0 rfl (Nat.zero_le _)
      simp only [Int.natCast_zero, List.drop_zero] at e hx
      rw [e]
      rcases hx with ⟨rfl, h⟩ | ⟨v, rfl, h⟩
      · rw [h]
        simp only [Option.bind_some, Sum.elim_inl, pV]
        unfold oH
        by_cases h1 : a.length < b.length
        · simp [h1]
        · by_cases h2 : b.length < a.length <;> simp [h1, h2]
      · rw [h]; rfl

end Go.Abs
namespace Go.Abs
open Go
def jE (e : aR) : aH := ⟨e.At, e.Net⟩

def gA (r : List aC) (f : List aH) : List aR → List (List aC × List aH)
  | [] => [(r, f)]
  | e :: l => if e.Row = r then gA r (f ++ [jE e]) l else (r, f) :: gA e.Row [jE e] l

def groups : List aR → List (List aC × List aH)
  | [] => []
  | e :: l => gA e.Row [jE e] l

def itG {σ : Type} (y : σ → List aC → List aH → Option (σ × Bool)) : List (List aC × List aH) → σ → Option σ
  | [], s => some s
  | g :: gs, s => (y s g.1 g.2).bind fun x => if x.2 then itG y gs x.1 else some x.1

def okL (l : List aR) : Prop := l.length ≤ 3518437208783 ∧ ∀ e ∈ l, e.Row.length ≤ 4398046510976

theorem FP {r : List aC} (h : r.length ≤ 4398046510976) : wH r = some r := by
  unfold wH
  rw [aM ⟨by omega, by omega, by omega⟩, aM (by simp only [List.length_nil, Nat.zero_add]; omega)]
  rfl

theorem LY {σ : Type} {y : σ → List aC → List aH → Option (σ × Bool)} {l : List aR} (hl : okL l) (row : List aC) (sg : σ) : ∀ (r : List aR) (k : Nat) (f : List aH), l.drop k = r → k ≤ l.length → f.length ≤ k →
    ∃ k' f', k ≤ k' ∧ k' ≤ l.length ∧ f'.length ≤ k' ∧ lp (fun s : σ × Int × List aH => kD y l row s.1 s.2.1 s.2.2) (sg, (k : Int), f) = some (sg, ((k' : Nat) : Int), f') ∧
      gA row f r = (row, f') :: groups (l.drop k') ∧ (∀ e r', r = e :: r' → e.Row = row → k < k')
  | [], k, f, hd, hk, hf => by
    have : k = l.length := by
      have := congrArg List.length hd
      simp only [List.length_drop, List.length_nil] at this; omega
    subst this
    refine ⟨l.length, f, Nat.le_refl _, Nat.le_refl _, hf, cU ?_, by simp [gA, groups], fun e r' h => by cases h⟩
    show kD _ _ _ _ _ _ = _
    simp only [kD, fO, cT, cond_false, Option.bind_some, Bool.false_and]
    exact aM (fun h => by cases h)
  | a :: r, k, f, hd, hk, hf => by
    obtain ⟨h1, h2⟩ := drop_cons hd
    have hlt : k < l.length := (List.getElem?_eq_some_iff.1 h1).1
    obtain ⟨hll, hlr⟩ := hl
    obtain ⟨d1, d2, d3, d4⟩ := idx h1 (by omega)
    have har := hlr a (List.mem_of_getElem? h1)
    have hb : (fun s : σ × Int × List aH => kD y l row s.1 s.2.1 s.2.2) (sg, (k : Int), f) = some (if a.Row = row then .inl (sg, ((k + 1 : Nat) : Int), f ++ [jE a]) else .inr (sg, (k : Int), f)) := by
      show kD _ _ _ _ _ _ = _
      simp only [kD, d1, d3, d4, cT, cond_true, OF a.Row row (by omega), Option.bind_some, Bool.true_and]
      rw [aM (fun _ => d2)]
      by_cases e : a.Row = row
      · simp only [e, decide_true, cond_true, if_true]
        rw [aM d2, aM d2, aM (by simp only [List.length_cons, List.length_nil]; omega)]
        rfl
      · simp [e]
    by_cases e : a.Row = row
    · rw [if_pos e] at hb
      obtain ⟨k', f', g1, g2, g3, g4, g5, _⟩ := LY ⟨hll, hlr⟩ row sg r (k + 1) (f ++ [jE a]) h2 (by omega) (by simp; omega) (y := y)
      refine ⟨k', f', by omega, g2, g3, by rw [eX hb]; exact g4, by simp [gA, e, g5], fun _ _ _ _ => by omega⟩
    · rw [if_neg e] at hb
      refine ⟨k, f, Nat.le_refl _, hk, hf, cU hb, ?_, fun b r' h hr => by cases h; exact absurd hr e⟩
      rw [hd]; simp [gA, e, groups]

theorem ZP {σ : Type} {y : σ → List aC → List aH → Option (σ × Bool)} {l : List aR} (hl : okL l) : ∀ (m k : Nat) (sg s' : σ), l.length - k ≤ m → k ≤ l.length → itG y (groups (l.drop k)) sg = some s' →
    ∃ x, lp (fun s : σ × Int => jB y l s.1 s.2) (sg, (k : Int)) = some x ∧ Sum.elim id id x = s' := by
  have stop : ∀ (sg s' : σ), itG y (groups (l.drop l.length)) sg = some s' → ∃ x, lp (fun s : σ × Int => jB y l s.1 s.2) (sg, ((l.length : Nat) : Int)) = some x ∧ Sum.elim id id x = s' := by
    intro sg s' h
    rw [List.drop_length] at h
    simp only [groups, itG, Option.some.injEq] at h
    refine ⟨.inl sg, cU ?_, h⟩
    show jB _ _ _ _ = _
    simp only [jB, fO, cond_false]
  intro m
  induction m with
  | zero =>
    intro k sg s' hm hk h
    have : k = l.length := by omega
    subst this; exact stop sg s' h
  | succ m ih =>
    intro k sg s' hm hk h
    by_cases he : k = l.length
    · subst he; exact stop sg s' h
    · have hlt : k < l.length := by omega
      have hd : l.drop k = l[k] :: l.drop (k + 1) := List.drop_eq_getElem_cons hlt
      obtain ⟨d1, d2, d3, d4⟩ := idx (List.getElem?_eq_getElem hlt) (by have := hl.1; omega)
      obtain ⟨k', f', g1, g2, g3, g4, g5, g6⟩ := LY hl l[k].Row sg (l.drop k) k [] rfl hk (by simp) (y := y)
      have hk' := g6 _ _ hd rfl
      have hg : groups (l.drop k) = (l[k].Row, f') :: groups (l.drop k') := by
        rw [← g5, hd]; simp [groups, gA]
      rw [hg] at h
      simp only [itG] at h
      obtain ⟨x, hx, h⟩ := aZ h
      have hrow := hl.2 _ (List.getElem_mem hlt)
      have hb : (fun s : σ × Int => jB y l s.1 s.2) (sg, (k : Int)) = some (if x.2 then .inl (x.1, ((k' : Nat) : Int)) else .inr (.inr x.1)) := by
        show jB _ _ _ _ = _
        simp only [jB, d1, cond_true, aM d2, d3, sS, g4, Option.bind_some, pO, FP hrow, hx]
        cases x.2 <;> simp
      cases hx2 : x.2
      · rw [hx2] at hb h
        simp only [Bool.false_eq_true, if_false, Option.some.injEq] at hb h
        exact ⟨_, cU hb, h⟩
      · rw [hx2] at hb h
        simp only [if_true] at hb h
        obtain ⟨z, hz1, hz2⟩ := ih k' x.1 s' (by omega) g2 h
        exact ⟨z, by rw [eX hb]; exact hz1, hz2⟩

theorem YC {σ : Type} {y : σ → List aC → List aH → Option (σ × Bool)} {l : List aR} (hl : okL l) {s s' : σ} (h : itG y (groups l) s = some s') : oL y l s = some s' := by
  unfold oL sL
  obtain ⟨x, h1, h2⟩ := ZP hl l.length 0 s s' (by omega) (Nat.zero_le _) (by simpa using h)
  simp only [Int.natCast_zero] at h1
  rw [h1]
  cases x <;> simpa using h2

def ahd (last : Option (List aC)) (r : List aC) : Bool := match last with
  | none => true
  | some q => decide (iW q r < 0)

def xY (p : List aH → Bool) : Option (List aC) → List (List aC × List aH) → Bool
  | _, [] => true
  | last, g :: gs => (kO g.1 && ahd last g.1 && p g.2) && xY p (some g.1) gs

theorem YL {holds : List aH → Option Bool} {p : List aH → Bool} (hp : ∀ f, holds f = some (p f)) (c : List aR) (t : Bool) : ∀ (gs : List (List aC × List aH)) (last : List aC) (b : Bool), (b = true → kO last = true) →
    ∃ x, itG (fun st r f => rnd (fun (s : Bool × (List aC) × Bool) => pQ holds c s.1 s.2.1 s.2.2 r f) st) gs (.inl (t, last, b)) = some x ∧
      (if xY p (if b then some last else none) gs then ∃ u, x = .inl (t, u) else ∃ u, x = .inr (false, u))
  | [], last, b, _ => ⟨_, rfl, by simp [xY]⟩
  | g :: gs, last, b, hb => by
    have hy : pQ holds c t last b g.1 g.2 = some (if kO g.1 && ahd (if b then some last else none) g.1 && p g.2 then .inl (t, g.1, true) else .inr (false, last, b)) := by
      unfold pQ
      simp only [ON, Option.bind_some, aBz, hp]
      cases hm : kO g.1
      · simp [cT]
      · cases b
        · cases h2 : p g.2 <;> simp [cT, ahd, h2]
        · have hl := hb rfl
          by_cases h1 : iW last g.1 < 0
          · have h1' : ¬ (0 ≤ iW last g.1) := by omega
            cases h2 : p g.2 <;> simp [cT, ahd, h2, hl, h1, h1']
          · have h1' : 0 ≤ iW last g.1 := by omega
            simp [cT, ahd, hl, h1, h1']
    cases hc : (kO g.1 && ahd (if b then some last else none) g.1 && p g.2)
    · rw [hc] at hy
      simp only [itG, rnd, hy, Option.bind_some, xY, hc]
      exact ⟨.inr (false, last, b), by simp, by simp⟩
    · rw [hc] at hy
      simp only [itG, rnd, hy, Option.bind_some, xY, hc]
      have hm : kO g.1 = true := by simp only [Bool.and_eq_true] at hc; exact hc.1.1
      obtain ⟨x, h1, h2⟩ := YL hp c t gs g.1 true (fun _ => hm)
      refine ⟨x, ?_, ?_⟩
      · simpa [rnd] using h1
      · simpa using h2

theorem YD {l : List aR} (hl : okL l) {holds : List aH → Option Bool} {p : List aH → Bool} (hp : ∀ f, holds f = some (p f)) : uC l holds = some (decide (l.length ≤ 4096) && xY p none (groups l)) := by
  unfold uC
  by_cases h : l.length ≤ 4096
  · have h1 : decide ((4096 : Int) < ((l.length : Nat) : Int)) = false := by simp; omega
    rw [h1, cond_false]
    simp only [uF, Option.bind_some, zE]
    obtain ⟨x, e1, e2⟩ := YL hp l false (groups l) [] false (fun h => by cases h)
    rw [YC hl e1]
    simp only [Bool.false_eq_true, if_false] at e2
    simp only [h, decide_true, Bool.true_and]
    cases hc : xY p none (groups l)
    · rw [hc] at e2
      simp only [Bool.false_eq_true, if_false] at e2
      obtain ⟨u, rfl⟩ := e2
      rfl
    · rw [hc] at e2
      simp only [if_true] at e2
      obtain ⟨u, rfl⟩ := e2
      rfl
  · have h1 : decide ((4096 : Int) < ((l.length : Nat) : Int)) = true := by simp; omega
    rw [h1, cond_true]
    simp [h]

def oF (l : List aR) : Bool := decide (l.length ≤ 4096) && xY gE none (groups l)

theorem XO {l : List aR} (hl : okL l) : wU l = some (oF l) := by
  unfold wU
  rw [YD hl (p := gE) (fun f => MT f)]; rfl

def OV (f : List aH) : Bool := gE f && decide (0 ≤ vQ f)

def vA (l : List aR) : Bool := decide (l.length ≤ 4096) && xY OV none (groups l)

theorem aBe {l : List aR} (hl : okL l) : vN l = some (vA l) := by
  unfold vN
  rw [YD hl (p := OV) (fun f => by
    unfold rP OV
    rw [MT]
    cases h : gE f <;> simp [cT, aB1, h])]
  rfl

def zJ (r : List aC) (f : List aH) : List aR := f.map fun j => ⟨r, j.At, j.Net⟩

def flat (gs : List (List aC × List aH)) : List aR := gs.flatMap fun g => zJ g.1 g.2

theorem OI : ∀ (l : List aR) (r : List aC) (f : List aH), flat (gA r f l) = zJ r f ++ l
  | [], r, f => by simp [gA, flat]
  | e :: l, r, f => by
    unfold gA
    split
    · rename_i h
      rw [OI l r]
      simp [zJ, jE, ← h]
    · have := OI l e.Row [jE e]
      simp only [flat, List.flatMap_cons] at this ⊢
      rw [this]
      simp [zJ, jE]

theorem AR (l : List aR) : flat (groups l) = l := by
  cases l with
  | nil => rfl
  | cons e l => unfold groups; rw [OI]; simp [zJ, jE]

theorem TI {r : List aC} : ∀ {l : List aR} {f : List aH} {g : List aC × List aH}, g ∈ gA r f l → f ≠ [] → g.2 ≠ [] ∧ (g.1 = r ∨ ∃ e ∈ l, g.1 = e.Row)
  | [], f, g, h, hf => by simp only [gA, List.mem_singleton] at h; subst h; exact ⟨hf, .inl rfl⟩
  | e :: l, f, g, h, hf => by
    unfold gA at h
    split at h
    · obtain ⟨h1, h2⟩ := TI h (by simp)
      exact ⟨h1, h2.imp id fun ⟨x, hx, hx'⟩ => ⟨x, by simp [hx], hx'⟩⟩
    · rcases List.mem_cons.1 h with rfl | h
      · exact ⟨hf, .inl rfl⟩
      · obtain ⟨h1, h2⟩ := TI (r := e.Row) h (by simp)
        refine ⟨h1, .inr ?_⟩
        rcases h2 with h2 | ⟨x, hx, hx'⟩
        · exact ⟨e, by simp, h2⟩
        · exact ⟨x, by simp [hx], hx'⟩

theorem GO {l : List aR} {g : List aC × List aH} (h : g ∈ groups l) : g.2 ≠ [] ∧ ∃ e ∈ l, g.1 = e.Row := by
  cases l with
  | nil => simp [groups] at h
  | cons e l =>
    obtain ⟨h1, h2⟩ := TI h (by simp)
    refine ⟨h1, ?_⟩
    rcases h2 with h2 | ⟨x, hx, hx'⟩
    · exact ⟨e, by simp, h2⟩
    · exact ⟨x, by simp [hx], hx'⟩

end Go.Abs
namespace Go.Abs
open Go
def dD (l : List aR) (r : List aC) : List aH := (l.filter fun e => decide (e.Row = r)).map jE

theorem EX (a b : List aR) (r : List aC) : dD (a ++ b) r = dD a r ++ dD b r := by simp [dD]

theorem RQ (q : List aC) (f : List aH) (r : List aC) : dD (zJ q f) r = if q = r then f else [] := by
  induction f with
  | nil => simp [dD, zJ]
  | cons j f ih =>
    have h1 : zJ q (j :: f) = [⟨q, j.At, j.Net⟩] ++ zJ q f := rfl
    rw [h1, EX, ih]
    by_cases h : q = r <;> simp [dD, jE, h]

def look : List (List aC × List aH) → List aC → List aH
  | [], _ => []
  | g :: gs, r => if g.1 = r then g.2 else look gs r

theorem DQ (g : List aC × List aH) (gs : List (List aC × List aH)) (r : List aC) : look (g :: gs) r = if g.1 = r then g.2 else look gs r := rfl

abbrev ltG (a b : List aC × List aH) : Prop := iW a.1 b.1 < 0

abbrev EI (gs : List (List aC × List aH)) : Prop := gs.Pairwise ltG

theorem vV {a : List aC} : ¬ iW a a < 0 := by rw [(rB.eq a a).2 rfl]; omega

theorem RK : ∀ {gs : List (List aC × List aH)} {r : List aC}, (∀ g ∈ gs, g.1 ≠ r) → look gs r = []
  | [], _, _ => rfl
  | g :: gs, r, h => by
    rw [DQ]
    rw [if_neg (h g (by simp))]
    exact RK fun q hq => h q (by simp [hq])

theorem ML (gs : List (List aC × List aH)) (r : List aC) : (look gs r = [] ∧ ∀ g ∈ gs, g.1 ≠ r) ∨ ∃ g ∈ gs, g.1 = r ∧ look gs r = g.2 := by
  induction gs with
  | nil => exact .inl ⟨rfl, by simp⟩
  | cons g gs ih =>
    rw [DQ]
    by_cases h : g.1 = r
    · rw [if_pos h]; exact .inr ⟨g, by simp, h, rfl⟩
    · rw [if_neg h]
      rcases ih with ⟨h1, h2⟩ | ⟨q, hq, h1, h2⟩
      · refine .inl ⟨h1, fun q hq => ?_⟩
        rcases List.mem_cons.1 hq with rfl | hq
        · exact h
        · exact h2 q hq
      · exact .inr ⟨q, by simp [hq], h1, h2⟩

theorem FO {gs : List (List aC × List aH)} (hs : EI gs) {g : List aC × List aH} (hg : g ∈ gs) : look gs g.1 = g.2 := by
  induction gs with
  | nil => simp at hg
  | cons q gs ih =>
    have hs' := List.pairwise_cons.1 hs
    rw [DQ]
    rcases List.mem_cons.1 hg with rfl | hg
    · rw [if_pos rfl]
    · rw [if_neg (fun e => by have := hs'.1 g hg; simp only [ltG, e] at this; exact vV this)]
      exact ih hs'.2 hg

theorem aAC (g : List aC × List aH) (gs : List (List aC × List aH)) : flat (g :: gs) = zJ g.1 g.2 ++ flat gs := rfl

theorem HG : ∀ {gs : List (List aC × List aH)}, EI gs → ∀ r, dD (flat gs) r = look gs r
  | [], _, r => rfl
  | g :: gs, hs, r => by
    have hs' := List.pairwise_cons.1 hs
    rw [aAC, EX, RQ, HG hs'.2, DQ]
    by_cases h : g.1 = r
    · rw [if_pos h, if_pos h, RK, List.append_nil]
      intro q hq e
      have := hs'.1 q hq
      simp only [ltG, h, e] at this; exact vV this
    · rw [if_neg h, if_neg h]; rfl

theorem yQ {p : List aH → Bool} : ∀ {gs : List (List aC × List aH)} {last : Option (List aC)}, xY p last gs = true ↔ (∀ g ∈ gs, kO g.1 = true ∧ p g.2 = true) ∧ EI gs ∧ (∀ q, last = some q → ∀ g ∈ gs, iW q g.1 < 0)
  | [], last => by simp [xY]
  | g :: gs, last => by
    unfold xY
    simp only [Bool.and_eq_true, yQ (gs := gs), List.mem_cons, List.pairwise_cons]
    constructor
    · rintro ⟨⟨⟨h1, h2⟩, h3⟩, h4, h5, h6⟩
      refine ⟨?_, ⟨fun q hq => h6 _ rfl q hq, h5⟩, ?_⟩
      · rintro q (rfl | hq)
        · exact ⟨h1, h3⟩
        · exact h4 q hq
      · rintro q rfl x (rfl | hx)
        · simpa [ahd] using h2
        · simp only [ahd, decide_eq_true_eq] at h2
          exact rB.trans _ _ _ h2 (h6 _ rfl x hx)
    · rintro ⟨h1, ⟨h2, h3⟩, h4⟩
      refine ⟨⟨⟨(h1 g (.inl rfl)).1, ?_⟩, (h1 g (.inl rfl)).2⟩, fun q hq => h1 q (.inr hq), h3, ?_⟩
      · unfold ahd
        split
        · rfl
        · exact decide_eq_true (h4 _ rfl g (.inl rfl))
      · rintro q hq x hx
        cases hq
        exact h2 x hx

theorem yP {l : List aR} (h : oF l = true) : l.length ≤ 4096 ∧ (∀ g ∈ groups l, kO g.1 = true ∧ gE g.2 = true) ∧ EI (groups l) := by
  simp only [oF, Bool.and_eq_true, decide_eq_true_eq] at h
  obtain ⟨h1, h2, _⟩ := yQ.1 h.2
  exact ⟨h.1, h1, h2⟩

theorem aAQ {l : List aR} (h : oF l = true) (r : List aC) : gE (look (groups l) r) = true := by
  rcases ML (groups l) r with ⟨h1, _⟩ | ⟨g, hg, _, h1⟩
  · rw [h1]; exact aCY
  · rw [h1]; exact ((yP h).2.1 g hg).2

theorem wL {l : List aR} (h : EI (groups l)) (r : List aC) : look (groups l) r = dD l r := by
  rw [← HG h, AR]

theorem XP (r : List aC) (f : List aH) (e : aR) (l : List aR) : gA r f (e :: l) = if e.Row = r then gA r (f ++ [jE e]) l else (r, f) :: gA e.Row [jE e] l := rfl

theorem PZ {l : List aR} (hl : okL l) {g : List aC × List aH} (hg : g ∈ groups l) : g.1.length ≤ 4398046510976 := by
  obtain ⟨_, e, he, h⟩ := GO hg
  rw [h]; exact hl.2 e he

theorem BF : ∀ (l : List aR) (r : List aC) (f : List aH), (gA r f l).length ≤ l.length + 1
  | [], _, _ => by simp [gA]
  | e :: l, r, f => by
    rw [XP]
    split
    · have := BF l r (f ++ [jE e]); simp only [List.length_cons]; omega
    · have := BF l e.Row [jE e]; simp only [List.length_cons]; omega

theorem FW (l : List aR) : (groups l).length ≤ l.length := by
  cases l with
  | nil => simp [groups]
  | cons e l => exact BF l e.Row [jE e]

end Go.Abs
namespace Go.Abs
open Go
abbrev leE (x y : aR) : Prop := iW x.Row y.Row < 0 ∨ (x.Row = y.Row ∧ x.At ≤ y.At)

theorem TO : ∀ {l : List aR} {r : List aC} {f : List aH}, Srt leE l → (∀ e ∈ l, e.Row = r ∨ iW r e.Row < 0) → EI (gA r f l) ∧ ∀ g ∈ gA r f l, g.1 = r ∨ iW r g.1 < 0
  | [], r, f, _, _ => by simp [gA]
  | e :: l, r, f, hs, hr => by
    have hs' := List.pairwise_cons.1 hs
    rw [XP]
    by_cases h : e.Row = r
    · rw [if_pos h]
      exact TO hs'.2 (fun x hx => hr x (by simp [hx]))
    · rw [if_neg h]
      have hlt : iW r e.Row < 0 := (hr e (by simp)).resolve_left h
      obtain ⟨h1, h2⟩ := TO (r := e.Row) (f := [jE e]) hs'.2 (fun x hx => by
        rcases hs'.1 x hx with h | ⟨h, _⟩
        · exact .inr h
        · exact .inl h.symm)
      have key : ∀ g ∈ gA e.Row [jE e] l, iW r g.1 < 0 := fun g hg => by
        rcases h2 g hg with h | h
        · rw [h]; exact hlt
        · exact rB.trans _ _ _ hlt h
      refine ⟨List.pairwise_cons.2 ⟨key, h1⟩, ?_⟩
      intro g hg
      rcases List.mem_cons.1 hg with rfl | hg
      · exact .inl rfl
      · exact .inr (key g hg)

theorem GL {l : List aR} (hs : Srt leE l) : EI (groups l) := by
  cases l with
  | nil => exact List.Pairwise.nil
  | cons e l =>
    have hs' := List.pairwise_cons.1 hs
    exact (TO hs'.2 (fun x hx => by
      rcases hs'.1 x hx with h | ⟨h, _⟩
      · exact .inr h
      · exact .inl h.symm)).1

abbrev IP (rs : List (List aC)) : Prop := rs.Pairwise fun a b => iW a b < 0

def rC (r : List aC) : List (List aC) → List (List aC)
  | [] => [r]
  | x :: xs => if iW x r < 0 then x :: rC r xs else if x = r then x :: xs else r :: x :: xs

def rowsOf (l : List aR) : List (List aC) := l.foldl (fun rs e => rC e.Row rs) []

theorem FK {r x : List aC} : ∀ {rs : List (List aC)}, x ∈ rC r rs ↔ x = r ∨ x ∈ rs
  | [] => by simp [rC]
  | y :: ys => by
    unfold rC
    split
    · simp only [List.mem_cons, FK (rs := ys)]
      constructor
      · rintro (h | h | h)
        · exact .inr (.inl h)
        · exact .inl h
        · exact .inr (.inr h)
      · rintro (h | h | h)
        · exact .inr (.inl h)
        · exact .inl h
        · exact .inr (.inr h)
    · split
      · rename_i h; subst h; simp
      · simp

theorem VY {r : List aC} : ∀ {rs : List (List aC)}, IP rs → IP (rC r rs)
  | [], _ => by simp [rC]
  | y :: ys, hs => by
    have hs' := List.pairwise_cons.1 hs
    unfold rC
    split
    · rename_i h
      refine List.pairwise_cons.2 ⟨fun z hz => ?_, VY hs'.2⟩
      rcases FK.1 hz with rfl | hz
      · exact h
      · exact hs'.1 z hz
    · rename_i h
      split
      · exact hs
      · rename_i hne
        have hlt : iW r y < 0 := by
          have h0 : iW y r ≠ 0 := fun e => hne ((rB.eq _ _).1 e)
          exact (rB.anti _ _).2 (by omega)
        refine List.pairwise_cons.2 ⟨fun z hz => ?_, hs⟩
        rcases List.mem_cons.1 hz with rfl | hz
        · exact hlt
        · exact rB.trans _ _ _ hlt (hs'.1 z hz)

theorem HU : ∀ (l : List aR) (rs : List (List aC)), IP rs → IP (l.foldl (fun rs e => rC e.Row rs) rs) ∧ ∀ x, x ∈ l.foldl (fun rs e => rC e.Row rs) rs ↔ x ∈ rs ∨ ∃ e ∈ l, e.Row = x
  | [], rs, hs => ⟨hs, by simp⟩
  | e :: l, rs, hs => by
    obtain ⟨h1, h2⟩ := HU l (rC e.Row rs) (VY hs)
    refine ⟨h1, fun x => ?_⟩
    simp only [List.foldl_cons]
    rw [h2 x, FK]
    simp only [List.mem_cons, exists_eq_or_imp]
    constructor
    · rintro ((h | h) | h)
      · exact .inr (.inl h.symm)
      · exact .inl h
      · exact .inr (.inr h)
    · rintro (h | h | h)
      · exact .inl (.inr h)
      · exact .inl (.inl h.symm)
      · exact .inr h

theorem ZF (l : List aR) : IP (rowsOf l) := (HU l [] List.Pairwise.nil).1

theorem GQ {l : List aR} {x : List aC} : x ∈ rowsOf l ↔ ∃ e ∈ l, e.Row = x := by
  have := (HU l [] List.Pairwise.nil).2 x
  simpa [rowsOf] using this

theorem UK : ∀ {a b : List (List aC)}, IP a → IP b → (∀ x, x ∈ a ↔ x ∈ b) → a = b
  | [], [], _, _, _ => rfl
  | [], y :: ys, _, _, h => absurd ((h y).2 (by simp)) (by simp)
  | x :: xs, [], _, _, h => absurd ((h x).1 (by simp)) (by simp)
  | x :: xs, y :: ys, ha, hb, h => by
    have ha' := List.pairwise_cons.1 ha
    have hb' := List.pairwise_cons.1 hb
    have e : x = y := by
      rcases List.mem_cons.1 ((h x).1 (by simp)) with h1 | h1
      · exact h1
      · rcases List.mem_cons.1 ((h y).2 (by simp)) with h2 | h2
        · exact h2.symm
        · exact absurd (rB.trans _ _ _ (hb'.1 x h1) (ha'.1 y h2)) vV
    subst e
    rw [UK ha'.2 hb'.2 fun z => ?_]
    constructor
    · intro hz
      rcases List.mem_cons.1 ((h z).1 (by simp [hz])) with h1 | h1
      · subst h1; exact absurd (ha'.1 z hz) vV
      · exact h1
    · intro hz
      rcases List.mem_cons.1 ((h z).2 (by simp [hz])) with h1 | h1
      · subst h1; exact absurd (hb'.1 z hz) vV
      · exact h1

def ZA (l : List aR) : List (List aC × List aH) := (rowsOf l).map fun r => (r, dD l r)

theorem WH {l : List aR} {r : List aC} (h : ∀ e ∈ l, e.Row ≠ r) : dD l r = [] := by
  unfold dD
  rw [List.map_eq_nil_iff, List.filter_eq_nil_iff]
  intro e he
  simpa using h e he

theorem XA {l l' : List aR} (hp : l'.Perm l) (hs : Srt leE l') : (groups l').map (·.1) = rowsOf l := by
  refine UK ?_ (ZF l) fun x => ?_
  · rw [IP, List.pairwise_map]; exact GL hs
  · rw [GQ]
    constructor
    · intro h
      obtain ⟨g, hg, rfl⟩ := List.mem_map.1 h
      obtain ⟨_, e, he, h1⟩ := GO hg
      exact ⟨e, hp.mem_iff.1 he, h1.symm⟩
    · rintro ⟨e, he, rfl⟩
      have he' : e ∈ flat (groups l') := by rw [AR]; exact hp.mem_iff.2 he
      obtain ⟨g, hg, h1⟩ := List.mem_flatMap.1 he'
      obtain ⟨j, _, rfl⟩ := List.mem_map.1 h1
      exact List.mem_map.2 ⟨g, hg, rfl⟩

end Go.Abs
namespace Go.Abs
open Go
def vL : aC := ⟨1, 1, ByteArray.empty⟩

end Go.Abs
namespace Go.Abs
open Go
theorem KB {σ : Type} {y : σ → List aC → List aH → Option (σ × Bool)} (c : List aR) : ∀ (gs : List (List aC × List aH)) (s s' : σ), itG y gs s = some s' →
    ∃ x, itG (fun st t10 t11 => rnd (fun (s : σ) => lE y c s t10 t11) st) gs (.inl s) = some x ∧ Sum.elim id id x = s'
  | [], s, s', h => by simp only [itG, Option.some.injEq] at h; exact ⟨_, rfl, h⟩
  | g :: gs, s, s', h => by
    simp only [itG] at h
    obtain ⟨z, hz, h⟩ := aZ h
    have hl : lE y c s g.1 g.2 = some (if z.2 then .inl z.1 else .inr z.1) := by
      unfold lE
      rw [hz]
      obtain ⟨z1, z2⟩ := z
      cases z2 <;> rfl
    cases h2 : z.2
    · rw [h2] at h hl
      simp only [Bool.false_eq_true, if_false, Option.some.injEq] at h hl
      refine ⟨.inr z.1, ?_, h⟩
      simp [itG, rnd, hl]
    · rw [h2] at h hl
      simp only [if_true] at h hl
      obtain ⟨x, h3, h4⟩ := KB c gs z.1 s' h
      refine ⟨x, ?_, h4⟩
      simp only [itG, rnd, hl, Option.bind_some, Sum.isLeft_inl, if_true]
      exact h3

theorem ZH {σ : Type} {y : σ → List aC → List aH → Option (σ × Bool)} {l : List aR} (hl : okL l) {s s' : σ} (h : itG y (if oF l then groups l else []) s = some s') : oW y l s = some s' := by
  unfold oW
  rw [XO hl]
  cases hm : oF l
  · rw [hm] at h
    simp only [Bool.false_eq_true, if_false, itG] at h
    simpa using h
  · rw [hm] at h
    simp only [if_true] at h
    simp only [Option.bind_some, Bool.not_true, cond_false, uF, qU]
    obtain ⟨x, h1, h2⟩ := KB l (groups l) s s' h
    rw [YC hl h1]
    cases x <;> simpa using h2

theorem MG {l : List aR} (hm : oF l = true) {e : aR} (he : e ∈ l) : kO e.Row = true ∧ -2 < e.At ∧ e.At < 1125899906842624 ∧ e.Net ≠ 0 ∧ e.Net ≤ 1048576 ∧ -1048576 ≤ e.Net := by
  obtain ⟨_, h2, _⟩ := yP hm
  have he' : e ∈ flat (groups l) := by rw [AR]; exact he
  obtain ⟨g, hg, h1⟩ := List.mem_flatMap.1 he'
  obtain ⟨j, hj, rfl⟩ := List.mem_map.1 h1
  obtain ⟨a, b⟩ := h2 g hg
  exact ⟨a, (lM.1 b).2.above j hj⟩

theorem wG {l : List aR} (hm : oF l = true) (r : List aC) : gE (dD l r) = true := by
  rw [← wL (yP hm).2.2]; exact aAQ hm r

end Go.Abs
namespace Go.Abs
open Go
theorem xE {l : List aR} (hl : okL l) (hn : l.length ≤ 1099511627776) {r : List aC} : nE l r = some (dD l r) := by
  unfold nE wD
  rw [nS (l := l) (body := fun s : List aH × Int => mP l r s.1 s.2) (fun o i => (o, i)) (fun o t => o ++ dD t r) (fun o t => o.length + t.length ≤ 1099511627776) [] ?_ ?_ (by simpa using hn)]
  · rfl
  · intro i a t o ha hi
    left
    obtain ⟨d1, d2, d3, d4⟩ := idx ha (by omega)
    simp only [List.length_cons] at hi
    have hr := hl.2 a (List.mem_of_getElem? ha)
    have hb : mP l r o (i : Int) = some (.inl (if a.Row = r then o ++ [jE a] else o, ((i + 1 : Nat) : Int))) := by
      simp only [mP, sA, d1, cond_true, aM d2, d3, d4, BE a.Row r (by omega), Option.bind_some]
      by_cases e : a.Row = r
      · simp only [e, decide_true, cond_true, if_true]
        rw [aM (by simp only [List.length_cons, List.length_nil]; omega)]; rfl
      · simp [e]
    refine ⟨_, hb, ?_, ?_⟩
    · split
      · simp; omega
      · omega
    · by_cases e : a.Row = r <;> simp [dD, e]
  · intro o _
    show mP _ _ _ _ = _
    simp only [mP, fO, cond_false]
    simp [dD]

theorem KU (r : List aC) : ∀ rs : List (List aC), (rC r rs).length ≤ rs.length + 1
  | [] => by simp [rC]
  | x :: xs => by
    unfold rC
    split
    · simp only [List.length_cons]; have := KU r xs; omega
    · split <;> simp

def xD (r : List aC) : List (List aC) → Nat
  | [] => 0
  | x :: xs => if iW x r < 0 then xD r xs + 1 else 0

theorem XW (r : List aC) : ∀ rs, xD r rs ≤ rs.length
  | [] => by simp [xD]
  | x :: xs => by unfold xD; split <;> simp [XW r xs]

theorem VX (r : List aC) : ∀ rs, rC r rs = if rs[xD r rs]? = some r then rs else rs.take (xD r rs) ++ [r] ++ rs.drop (xD r rs)
  | [] => by simp [rC]
  | x :: xs => by
    unfold rC xD
    by_cases h : iW x r < 0
    · rw [if_pos h, if_pos h, VX r xs]
      simp only [List.getElem?_cons_succ, List.take_succ_cons, List.drop_succ_cons]
      split <;> simp
    · rw [if_neg h, if_neg h]
      by_cases e : x = r <;> simp [e]

theorem OB {l : List aR} {rs : List (List aC)} {e : aR} {i : Nat} (hi : l[i]? = some e) (hl : okL l) (he : kO e.Row = true) (hr : ∀ x ∈ rs, kO x = true) (hn : rs.length ≤ 1099511627776) : ∀ (t : List (List aC)) (k : Nat), rs.drop k = t → k ≤ rs.length →
    lp (fun s : List (List aC) × Int => mF l (i : Int) s.1 s.2) (rs, (k : Int)) = some (rs, ((k + xD e.Row t : Nat) : Int))
  | [], k, hd, hk => by
    have : k = rs.length := by
      have := congrArg List.length hd
      simp only [List.length_drop, List.length_nil] at this; omega
    subst this
    refine cU ?_
    show mF _ _ _ _ = _
    simp only [mF, fO, cT, cond_false, Option.bind_some, Bool.false_and]
    rw [aM (fun h => by cases h), aM (fun h => by cases h)]
    simp [xD]
  | x :: t, k, hd, hk => by
    obtain ⟨h1, h2⟩ := drop_cons hd
    have hlt := (List.getElem?_eq_some_iff.1 h1).1
    obtain ⟨d1, d2, d3, d4⟩ := idx h1 (by omega)
    obtain ⟨_, c2, c3, _⟩ := idx hi (by have := hl.1; omega)
    have hx := hr x (List.mem_of_getElem? h1)
    have hb : (fun s : List (List aC) × Int => mF l (i : Int) s.1 s.2) (rs, (k : Int)) = some (if iW x e.Row < 0 then .inl (rs, ((k + 1 : Nat) : Int)) else .inr (rs, (k : Int))) := by
      show mF _ _ _ _ = _
      simp only [mF, d1, cT, cond_true, d3, c3, d4, Bool.true_and]
      rw [aM (fun _ => d2), aM (fun _ => c2), HS x e.Row (by have := (zY hx).1; omega) (by have := (zY he).1; omega), hx, he]
      simp only [Bool.and_self, if_true, Option.bind_some]
      by_cases h : iW x e.Row < 0 <;> simp [h]
    unfold xD
    by_cases h : iW x e.Row < 0
    · rw [if_pos h] at hb
      rw [eX hb, OB hi hl he hr hn t (k + 1) h2 (by omega), if_pos h]
      congr 3; omega
    · rw [if_neg h] at hb
      rw [cU hb, if_neg h]; rfl

theorem FU {l : List aR} (hl : okL l) (hm : ∀ e ∈ l, kO e.Row = true) (hn : l.length ≤ 1099511627776) : pS l = some (rowsOf l) := by
  unfold pS yA
  rw [nS (l := l) (body := fun s : List (List aC) × Int => nF l s.1 s.2) (fun o i => (o, i)) (fun o t => t.foldl (fun rs e => rC e.Row rs) o) (fun o t => o.length + t.length ≤ 1099511627776 ∧ ∀ x ∈ o, kO x = true) [] ?_ ?_ ⟨by simpa using hn, by simp⟩]
  · rfl
  · rintro i e t rs hi ⟨h1, h2⟩
    left
    obtain ⟨d1, d2, d3, d4⟩ := idx hi (by omega)
    have he := hm e (List.mem_of_getElem? hi)
    simp only [List.length_cons] at h1
    refine ⟨rC e.Row rs, ?_, ⟨by have := KU e.Row rs; omega, fun x hx => by
      rcases FK.1 hx with rfl | h
      · exact he
      · exact h2 x h⟩, rfl⟩
    show nF _ _ _ = _
    have hin := OB hi hl he h2 (by omega) rs 0 rfl (Nat.zero_le _)
    simp only [Int.natCast_zero, Nat.zero_add] at hin
    have hple := XW e.Row rs
    simp only [nF, d1, cond_true, yB, hin, Option.bind_some, tR, tM, d3, d4]
    rw [VX]
    by_cases hp : xD e.Row rs < rs.length
    · have hx : rs[xD e.Row rs]? = some rs[xD e.Row rs] := List.getElem?_eq_getElem hp
      obtain ⟨f1, f2, f3, _⟩ := idx hx (by omega)
      have hrow := h2 _ (List.mem_of_getElem? hx)
      simp only [f1, f3, cT, cond_true, Bool.true_and]
      rw [aM (fun _ => f2), aM (fun _ => d2), BE _ _ (by have := (zY hrow).1; omega)]
      by_cases hq : rs[xD e.Row rs] = e.Row
      · simp [hq, hx]
      · simp only [hq, decide_false, cond_false, Option.bind_some, hx, Option.some.injEq, if_false, Int.toNat_natCast]
        rw [aM ⟨by omega, by omega⟩, aM ⟨by simp; omega, by simp; omega⟩, aM d2, aM ⟨by simp; omega, by simp; omega⟩, aM ⟨by omega, by omega⟩, aM ⟨by simp; omega, by simp; omega⟩]
    · have hpe : xD e.Row rs = rs.length := by omega
      rw [hpe]
      simp only [fO, cT, cond_false, Option.bind_some, Bool.false_and]
      rw [aM (fun h => by cases h), aM (fun h => by cases h)]
      have hnone : rs[rs.length]? = none := by simp
      simp only [hnone, reduceCtorEq, if_false, Int.toNat_natCast]
      rw [aM ⟨by omega, by omega⟩, aM ⟨by simp; omega, by simp; omega⟩, aM d2, aM ⟨by simp; omega, by simp; omega⟩, aM ⟨by omega, by omega⟩, aM ⟨by simp; omega, by simp; omega⟩]
  · rintro rs ⟨_, _⟩
    show nF _ _ _ = _
    simp only [nF, fO, cond_false]
    rfl

theorem GV : ∀ (l : List aR) (rs : List (List aC)), (l.foldl (fun rs e => rC e.Row rs) rs).length ≤ rs.length + l.length
  | [], rs => by simp
  | e :: l, rs => by
    have := GV l (rC e.Row rs)
    have := KU e.Row rs
    simp only [List.foldl_cons, List.length_cons]; omega

theorem MK (l : List aR) : (rowsOf l).length ≤ l.length := by
  have := GV l []
  simpa [rowsOf] using this

end Go.Abs
namespace Go.Abs
open Go
abbrev ltE (x y : aR) : Prop := iW x.Row y.Row < 0 ∨ (x.Row = y.Row ∧ x.At < y.At)

theorem aBa {x y z : aR} (h1 : ltE x y) (h2 : ltE y z) : ltE x z := by
  rcases h1 with h1 | ⟨h1, h1'⟩ <;> rcases h2 with h2 | ⟨h2, h2'⟩
  · exact .inl (rB.trans _ _ _ h1 h2)
  · exact .inl (h2 ▸ h1)
  · exact .inl (h1 ▸ h2)
  · exact .inr ⟨h1.trans h2, by omega⟩

theorem DO : ∀ {f : List aH} {last : Int}, pY last f ↔ (∀ j ∈ f, qC last j = false) ∧ f.Pairwise fun a b => a.At < b.At
  | [], last => by simp [pY]
  | j :: f, last => by
    rw [List.pairwise_cons]
    unfold pY
    rw [← mJ]
    constructor
    · rintro ⟨h1, h2⟩
      have h3 := DO.1 h2
      have h4 := mJ.1 h1
      refine ⟨fun k hk => ?_, fun k hk => (mJ.1 (h3.1 k hk)).1, h3.2⟩
      rcases List.mem_cons.1 hk with rfl | hk
      · exact h1
      · have := mJ.1 (h3.1 k hk)
        exact mJ.2 (by omega)
    · rintro ⟨h1, h2, h3⟩
      refine ⟨h1 j (by simp), DO.2 ⟨fun k hk => ?_, h3⟩⟩
      have := mJ.1 (h1 k (by simp [hk]))
      have := h2 k hk
      exact mJ.2 (by omega)

theorem CG {l : List aR} : oF l = true ↔ l.length ≤ 4096 ∧ (∀ e ∈ l, kO e.Row = true ∧ qC (-2) (jE e) = false) ∧ l.Pairwise ltE ∧ ∀ r ∈ rowsOf l, (dD l r).length ≤ 1024 := by
  constructor
  · intro h
    obtain ⟨h1, h2, h3⟩ := yP h
    refine ⟨h1, fun e he => ?_, ?_, fun r _ => (lM.1 (wG h r)).1⟩
    · obtain ⟨a, b, c, d, e1, e2⟩ := MG h he
      exact ⟨a, mJ.2 ⟨b, c, d, e1, e2⟩⟩
    · rw [← AR l]
      unfold flat
      rw [List.flatMap, List.pairwise_flatten, List.pairwise_map]
      constructor
      · intro x hx
        obtain ⟨g, hg, rfl⟩ := List.mem_map.1 hx
        have := (DO.1 (lM.1 (h2 g hg).2).2).2
        rw [zJ, List.pairwise_map]
        exact this.imp fun h => .inr ⟨rfl, h⟩
      · refine h3.imp fun {a b} h x hx y hy => ?_
        obtain ⟨j, _, rfl⟩ := List.mem_map.1 hx
        obtain ⟨k, _, rfl⟩ := List.mem_map.1 hy
        exact .inl h
  · rintro ⟨h1, h2, h3, h4⟩
    have hs : Srt leE l := h3.imp fun h => by
      rcases h with h | ⟨h, h'⟩
      · exact .inl h
      · exact .inr ⟨h, by omega⟩
    have hg := GL hs
    unfold oF
    rw [Bool.and_eq_true]
    refine ⟨by simpa using h1, yQ.2 ⟨fun g hg' => ?_, hg, fun q hq => by cases hq⟩⟩
    obtain ⟨_, e, he, h5⟩ := GO hg'
    have hj : g.2 = dD l g.1 := by rw [← wL hg, FO hg hg']
    refine ⟨by rw [h5]; exact (h2 e he).1, ?_⟩
    rw [hj]
    refine lM.2 ⟨h4 _ (GQ.2 ⟨e, he, h5.symm⟩), DO.2 ⟨fun j hj => ?_, ?_⟩⟩
    · obtain ⟨e, he, rfl⟩ := List.mem_map.1 hj
      exact (h2 e (List.mem_filter.1 he).1).2
    · unfold dD
      rw [List.pairwise_map, List.pairwise_filter]
      refine h3.imp fun {a b} h ha hb => ?_
      rcases h with h | ⟨_, h⟩
      · simp only [decide_eq_true_eq] at ha hb
        rw [ha, hb] at h
        exact absurd h vV
      · exact h

theorem aBL {α : Type} {R : α → α → Prop} (ht : ∀ {x y z}, R x y → R y z → R x z) {l : List α} : l.Pairwise R ↔ ∀ (i : Nat) (a b : α), l[i]? = some a → l[i + 1]? = some b → R a b := by
  constructor
  · intro h i a b ha hb
    obtain ⟨h1, rfl⟩ := List.getElem?_eq_some_iff.1 ha
    obtain ⟨h2, rfl⟩ := List.getElem?_eq_some_iff.1 hb
    exact List.pairwise_iff_getElem.1 h i (i + 1) h1 h2 (by omega)
  · intro h
    refine List.pairwise_iff_getElem.2 fun i j hi hj hij => ?_
    obtain ⟨k, rfl⟩ : ∃ k, j = i + 1 + k := ⟨j - i - 1, by omega⟩
    clear hij
    induction k with
    | zero => exact h i _ _ (List.getElem?_eq_getElem hi) (List.getElem?_eq_getElem hj)
    | succ k ih => exact ht (ih (by omega)) (h (i + 1 + k) _ _ (List.getElem?_eq_getElem (by omega)) (List.getElem?_eq_getElem hj))

def OJ (a b : List aC) : Int := if kO a && kO b then iW a b else 0

def DH (l : List aR) (i : Nat) : Bool := !(kO (l.getD i default).Row && !qC (-2) (jE (l.getD i default))) || (decide (i ≠ 0) && (decide (0 < OJ (l.getD (i - 1) default).Row (l.getD i default).Row) || (decide (OJ (l.getD (i - 1) default).Row (l.getD i default).Row = 0) && decide ((l.getD i default).At ≤ (l.getD (i - 1) default).At))))

theorem QM {l : List aR} : (List.range l.length).any (DH l) = false ↔ (∀ e ∈ l, kO e.Row = true ∧ qC (-2) (jE e) = false) ∧ l.Pairwise ltE := by
  rw [List.any_eq_false, aBL (R := ltE) (fun h1 h2 => aBa h1 h2)]
  constructor
  · intro h
    have h' : ∀ i, i < l.length → DH l i = false := fun i hi => by simpa using h i (List.mem_range.2 hi)
    refine ⟨fun e he => ?_, fun i a b ha hb => ?_⟩
    · obtain ⟨i, hi, rfl⟩ := List.mem_iff_getElem.1 he
      have := h' i hi
      unfold DH at this
      rw [Bool.or_eq_false_iff] at this
      have h1 := this.1
      simp only [List.getD_eq_getElem?_getD, List.getElem?_eq_getElem hi, Option.getD_some, Bool.not_eq_false', Bool.and_eq_true, Bool.not_eq_true'] at h1
      exact h1
    · obtain ⟨hi, rfl⟩ := List.getElem?_eq_some_iff.1 ha
      obtain ⟨hj, rfl⟩ := List.getElem?_eq_some_iff.1 hb
      have := h' (i + 1) hj
      have r1 := h' i hi
      unfold DH at this r1
      rw [Bool.or_eq_false_iff] at this r1
      have h1 := this.2
      have r2 := this.1
      have r1 := r1.1
      simp only [List.getD_eq_getElem?_getD, List.getElem?_eq_getElem hi, List.getElem?_eq_getElem hj, Option.getD_some, Bool.not_eq_false', Bool.and_eq_true, Bool.not_eq_true'] at r1 r2
      simp only [List.getD_eq_getElem?_getD, Nat.add_sub_cancel, List.getElem?_eq_getElem hi, List.getElem?_eq_getElem hj, Option.getD_some, ne_eq, Nat.add_eq_zero_iff, Nat.one_ne_zero, and_false, not_false_eq_true, decide_true, Bool.true_and, Bool.or_eq_false_iff, decide_eq_false_iff_not, Bool.and_eq_false_iff, OJ, r1.1, r2.1, Bool.and_self, if_true] at h1
      by_cases hc : iW l[i].Row l[i + 1].Row = 0
      · refine .inr ⟨(rB.eq _ _).1 hc, ?_⟩
        rcases h1.2 with h | h
        · exact absurd hc h
        · omega
      · exact .inl (by omega)
  · rintro ⟨h1, h2⟩ i hi
    have hi := List.mem_range.1 hi
    unfold DH
    have ge : l.getD i default = l[i] := by simp [List.getD_eq_getElem?_getD, hi]
    have := h1 l[i] (List.getElem_mem hi)
    rw [ge, this.1, this.2]
    by_cases h0 : i = 0
    · simp [h0]
    · have hi' : i - 1 < l.length := by omega
      have ge' : l.getD (i - 1) default = l[i - 1] := by simp [List.getD_eq_getElem?_getD, hi']
      have h3 := h2 (i - 1) l[i - 1] l[i] (List.getElem?_eq_getElem hi') (by rw [show i - 1 + 1 = i by omega]; exact List.getElem?_eq_getElem hi)
      rw [ge']
      have r1 := (h1 l[i - 1] (List.getElem_mem hi')).1
      unfold OJ
      rw [r1, this.1]
      rcases h3 with h3 | ⟨h3, h4⟩
      · have a : ¬ 0 < iW l[i - 1].Row l[i].Row := by omega
        have b : ¬ iW l[i - 1].Row l[i].Row = 0 := by omega
        simp [a, b]
      · have a : iW l[i - 1].Row l[i].Row = 0 := (rB.eq _ _).2 h3
        have b : ¬ l[i].At ≤ l[i - 1].At := by omega
        simp [a, b]

theorem MZ {l : List aR} (hl : okL l) : tX l = some (oF l) := by
  unfold tX
  by_cases hn : l.length ≤ 4096
  · have h1 : decide ((4096 : Int) < ((l.length : Nat) : Int)) = false := by simp; omega
    rw [h1, cond_false]
    unfold zR
    have hlp := CS (body := fun s => oD l s) (l := List.range l.length) (fun i => i) (DH l) (.inr false) (.inl ()) ?_ ?_
    · rw [hlp]
      cases hb : (List.range l.length).any (DH l)
      · obtain ⟨h2, h3⟩ := QM.1 hb
        have hr := FU hl (fun e he => (h2 e he).1) (by omega)
        simp only [Bool.false_eq_true, if_false, Option.bind_some, Sum.elim_inl, vO, hr, zB]
        have hrl := MK l
        rw [CS (l := rowsOf l) (fun i => i) (fun r => decide (1024 < (dD l r).length)) (.inr false) (.inl ()) ?_ ?_]
        · cases hc : (rowsOf l).any fun r => decide (1024 < (dD l r).length)
          · have : oF l = true := CG.2 ⟨hn, h2, h3, fun r hr => by
              have := List.any_eq_false.1 hc r hr
              simp only [decide_eq_true_eq] at this; omega⟩
            rw [this]; rfl
          · have : oF l = false := by
              rw [Bool.eq_false_iff]
              intro hm
              obtain ⟨r, hr, h4⟩ := List.any_eq_true.1 hc
              have := (CG.1 hm).2.2.2 r hr
              simp only [decide_eq_true_eq] at h4; omega
            rw [this]; rfl
        · intro i r hi
          obtain ⟨d1, d2, d3, d4⟩ := idx hi (by omega)
          show pU _ _ _ = _
          simp only [pU, d1, cond_true, aM d2, d3, d4, xE hl (show l.length ≤ 1099511627776 by omega), Option.bind_some]
          by_cases h : 1024 < (dD l r).length
          · have h' : (1024 : Int) < (((dD l r).length : Nat) : Int) := by omega
            simp [h, h']
          · have h' : ¬ (1024 : Int) < (((dD l r).length : Nat) : Int) := by omega
            simp [h, h']
        · show pU _ _ _ = _
          simp only [pU, fO, cond_false]
      · have : oF l = false := by
          rw [Bool.eq_false_iff]
          intro hm
          obtain ⟨_, h2, h3, _⟩ := CG.1 hm
          have := QM.2 ⟨h2, h3⟩
          rw [this] at hb; cases hb
        rw [this]; rfl
    · intro i k hi
      obtain ⟨hi0, hk⟩ := List.getElem?_eq_some_iff.1 hi
      rw [List.getElem_range] at hk
      subst hk
      have hi1 : i < l.length := by simpa using hi0
      have hx := List.getElem?_eq_getElem hi1
      obtain ⟨d1, d2, d3, d4⟩ := idx hx (by omega)
      have hr := hl.2 _ (List.getElem_mem hi1)
      have ge : l.getD i default = l[i] := by simp [List.getD_eq_getElem?_getD, hi1]
      show oD _ _ = _
      simp only [oD, d1, cond_true, aM d2, d3, FM l[i].Row (by omega), Option.bind_some]
      rw [aM (fun _ => d2), aM (fun _ => d2)]
      have hm : qZ [⟨l[i].At, l[i].Net⟩] = some (!qC (-2) (jE l[i])) := by
        rw [PU]
        simp only [gE, chk, List.length_cons, List.length_nil, jE]
        cases qC (-2) ⟨l[i].At, l[i].Net⟩ <;> rfl
      rw [hm]
      unfold DH
      rw [ge]
      cases h2 : kO l[i].Row
      · simp [cT]
      · cases h3 : qC (-2) (jE l[i])
        · simp only [cT, Bool.not_true, Bool.not_false, cond_true, Option.bind_some, Bool.or_self, cond_false, Bool.and_self]
          by_cases h0 : i = 0
          · subst h0
            simp [rV, dM]
          · have hi' : i - 1 < l.length := by omega
            have hw : IntKind.i64.wrap ((i : Int) - 1) = ((i - 1 : Nat) : Int) := by rw [dM (by omega) (by omega)]; omega
            have hx' := List.getElem?_eq_getElem hi'
            obtain ⟨_, e2, e3, _⟩ := idx hx' (by omega)
            have ge' : l.getD (i - 1) default = l[i - 1] := by simp [List.getD_eq_getElem?_getD, hi']
            have hr' := hl.2 _ (List.getElem_mem hi')
            have hz : decide ((i : Int) = 0) = false := by simp; omega
            simp only [hz, cond_false, hw, aM e2, aM d2, e3, d3, ge']
            rw [HS _ _ (by omega) (by omega), show (if (kO l[i - 1].Row && kO l[i].Row) = true then iW l[i - 1].Row l[i].Row else 0) = OJ l[i - 1].Row l[i].Row from rfl]
            simp only [Option.bind_some, rV, d4]
            rw [aM (fun _ => e2), aM (fun _ => d2)]
            generalize OJ l[i - 1].Row l[i].Row = c
            cases hz2 : (decide (0 < c) || (decide (c = 0) && decide (l[i].At ≤ l[i - 1].At)))
            · simp
            · simp [h0]
        · simp [cT]
    · show oD _ _ = _
      simp only [oD, List.length_range, fO, cond_false]
  · have h1 : decide ((4096 : Int) < ((l.length : Nat) : Int)) = true := by simp; omega
    rw [h1, cond_true]
    simp [oF, hn]

end Go.Abs
namespace Go.Abs
open Go
theorem XZ {c : Int} : ∀ {l : List Int} {m : Int}, c ≤ l.foldl mn m ↔ c ≤ m ∧ ∀ x ∈ l, c ≤ x
  | [], m => by simp
  | a :: l, m => by
    rw [List.foldl_cons, XZ]
    unfold mn
    constructor
    · rintro ⟨h1, h2⟩
      have h3 : c ≤ m ∧ c ≤ a := by split at h1 <;> omega
      refine ⟨h3.1, fun x hx => ?_⟩
      rcases List.mem_cons.1 hx with rfl | hx
      · exact h3.2
      · exact h2 x hx
    · rintro ⟨h1, h2⟩
      have := h2 a (by simp)
      exact ⟨by split <;> omega, fun x hx => h2 x (by simp [hx])⟩

theorem QJ {t : Int} : ∀ {f : List aH} {l v : Int}, pY l f → v + val f t = v ∨ v + val f t ∈ parts v f
  | [], l, v, _ => .inl (by simp [val])
  | j :: r, l, v, h => by
    unfold parts
    rw [gL]
    by_cases e : j.At ≤ t
    · rw [if_pos e]
      right
      rcases QJ (t := t) (v := v + j.Net) h.2 with h1 | h1
      · rw [show v + (j.Net + val r t) = v + j.Net by omega]; simp
      · rw [show v + (j.Net + val r t) = v + j.Net + val r t by omega]; exact List.mem_cons_of_mem _ h1
    · left
      rw [if_neg e, h.2.CQ (by omega)]; omega

theorem DM {f : List aH} (hf : gE f = true) : 0 ≤ vQ f ↔ ∀ t, 0 ≤ val f t := by
  have hr := (lM.1 hf).2
  unfold vQ
  rw [XZ]
  constructor
  · rintro ⟨_, h2⟩ t
    rcases QJ (t := t) (v := 0) hr with h | h
    · omega
    · rw [parts_eq hr] at h
      obtain ⟨j, hj, h⟩ := List.mem_map.1 h
      have := h2 _ (List.mem_map.2 ⟨j, hj, rfl⟩)
      omega
  · intro h
    refine ⟨h _, fun x hx => ?_⟩
    obtain ⟨j, _, rfl⟩ := List.mem_map.1 hx
    exact h _

theorem BP {l : List aR} : vA l = true ↔ oF l = true ∧ ∀ r t, 0 ≤ val (dD l r) t := by
  constructor
  · intro h
    unfold vA at h
    rw [Bool.and_eq_true, yQ] at h
    obtain ⟨h1, h2, h3, _⟩ := h
    have hm : oF l = true := by
      unfold oF
      rw [Bool.and_eq_true]
      exact ⟨h1, yQ.2 ⟨fun g hg => ⟨(h2 g hg).1, by have := (h2 g hg).2; unfold OV at this; rw [Bool.and_eq_true] at this; exact this.1⟩, h3, fun q hq => by cases hq⟩⟩
    refine ⟨hm, fun r => ?_⟩
    rw [← wL h3]
    rcases ML (groups l) r with ⟨e, _⟩ | ⟨g, hg, _, e⟩
    · rw [e]; intro t; simp [val]
    · rw [e]
      have := (h2 g hg).2
      unfold OV at this
      rw [Bool.and_eq_true, decide_eq_true_eq] at this
      exact (DM this.1).1 this.2
  · rintro ⟨hm, h⟩
    obtain ⟨h1, h2, h3⟩ := yP hm
    unfold vA
    rw [Bool.and_eq_true]
    refine ⟨by simpa using h1, yQ.2 ⟨fun g hg => ⟨(h2 g hg).1, ?_⟩, h3, fun q hq => by cases hq⟩⟩
    unfold OV
    rw [Bool.and_eq_true, decide_eq_true_eq]
    refine ⟨(h2 g hg).2, (DM (h2 g hg).2).2 ?_⟩
    have : g.2 = dD l g.1 := by rw [← wL h3, FO h3 hg]
    rw [this]; exact h g.1

theorem TJ {l : List aR} {r : List aC} (h : r ∉ rowsOf l) : dD l r = [] :=
  WH fun e he hr => h (GQ.2 ⟨e, he, hr⟩)

theorem SV {l : List aR} (hl : okL l) : tI l = some (vA l) := by
  unfold tI
  rw [MZ hl]
  cases hm : oF l
  · have : vA l = false := by
      rw [Bool.eq_false_iff]; intro h
      rw [(BP.1 h).1] at hm; cases hm
    rw [this]; rfl
  · obtain ⟨h1, h2, _⟩ := CG.1 hm
    simp only [Option.bind_some, Bool.not_true, cond_false, FU hl (fun e he => (h2 e he).1) (show l.length ≤ 1099511627776 by omega), wB]
    have hrl := MK l
    rw [CS (l := rowsOf l) (fun i => i) (fun r => decide (vQ (dD l r) < 0)) (.inr false) (.inl ()) ?_ ?_]
    · cases hc : (rowsOf l).any fun r => decide (vQ (dD l r) < 0)
      · have : vA l = true := BP.2 ⟨hm, fun r => by
          by_cases hr : r ∈ rowsOf l
          · have := List.any_eq_false.1 hc r hr
            simp only [decide_eq_true_eq] at this
            exact (DM (wG hm r)).1 (by omega)
          · rw [TJ hr]; intro t; simp [val]⟩
        rw [this]; rfl
      · have : vA l = false := by
          rw [Bool.eq_false_iff]; intro h
          obtain ⟨r, _, hr⟩ := List.any_eq_true.1 hc
          simp only [decide_eq_true_eq] at hr
          have := (DM (wG hm r)).2 ((BP.1 h).2 r)
          omega
        rw [this]; rfl
    · intro i r hi
      obtain ⟨d1, d2, d3, d4⟩ := idx hi (by omega)
      show nV _ _ _ = _
      simp only [nV, d1, cond_true, aM d2, d3, d4, xE hl (show l.length ≤ 1099511627776 by omega), Option.bind_some, WS, wG hm r, if_true]
      by_cases h : vQ (dD l r) < 0 <;> simp [h]
    · show nV _ _ _ = _
      simp only [nV, fO, cond_false]

end Go.Abs
namespace Go.Abs
open Go
theorem JS {l : List aR} (hm : oF l = true) : ZA l = groups l := by
  obtain ⟨_, _, hp, _⟩ := CG.1 hm
  have hs : Srt leE l := hp.imp fun h => by
    rcases h with h | ⟨h, h'⟩
    · exact .inl h
    · exact .inr ⟨h, by omega⟩
  have hg := GL hs
  unfold ZA
  rw [← XA (List.Perm.refl l) hs, List.map_map]
  conv => rhs; rw [← List.map_id (groups l)]
  refine List.map_congr_left fun g hg' => ?_
  simp only [Function.comp, id]
  rw [← wL hg, FO hg hg']

end Go.Abs
namespace Go.Abs
open Go
abbrev gN (d : List Int) (i : Nat) : Int := d.getD i default

def swp (d : List Int) (i j : Nat) : List Int := (d.set i (gN d j)).set j (gN d i)

theorem aAL {d : List Int} {i k : Nat} {x : Int} (h : i < d.length) : gN (d.set i x) k = if k = i then x else gN d k := by
  simp only [gN, List.getD_eq_getElem?_getD, List.getElem?_set]
  by_cases e : i = k
  · subst e; simp [h]
  · rw [if_neg e, if_neg (fun h => e h.symm)]

theorem iF (d : List Int) (i j : Nat) : (swp d i j).length = d.length := by simp [swp]

theorem uB {d : List Int} {i j : Nat} (hi : i < d.length) (hj : j < d.length) (k : Nat) : gN (swp d i j) k = if k = j then gN d i else if k = i then gN d j else gN d k := by
  unfold swp
  rw [aAL (by simpa using hj), aAL hi]

theorem aBJ {d : List Int} {i j : Nat} (hi : i < d.length) (hj : j < d.length) : (swp d i j).Perm d := by
  have h1 : gN d i = d[i] := by simp [gN, List.getD_eq_getElem?_getD, List.getElem?_eq_getElem hi]
  have h2 : gN d j = d[j] := by simp [gN, List.getD_eq_getElem?_getD, List.getElem?_eq_getElem hj]
  unfold swp
  rw [h1, h2]
  exact List.set_set_perm hi hj

structure Rel (a b : Nat) (d d' : List Int) : Prop where
  len : d'.length = d.length
  perm : d'.Perm d
  out : ∀ k, k < a ∨ b ≤ k → gN d' k = gN d k
  src : ∀ k, a ≤ k → k < b → ∃ k', a ≤ k' ∧ k' < b ∧ gN d' k = gN d k'

theorem Rel.refl (a b : Nat) (d : List Int) : Rel a b d d := ⟨rfl, .refl _, fun _ _ => rfl, fun k h1 h2 => ⟨k, h1, h2, rfl⟩⟩

theorem Rel.trans {a b : Nat} {d d' d'' : List Int} (h : Rel a b d d') (h' : Rel a b d' d'') : Rel a b d d'' :=
  ⟨h'.len.trans h.len, h'.perm.trans h.perm, fun k hk => (h'.out k hk).trans (h.out k hk), fun k h1 h2 => by
    obtain ⟨k1, a1, a2, a3⟩ := h'.src k h1 h2
    obtain ⟨k2, b1, b2, b3⟩ := h.src k1 a1 a2
    exact ⟨k2, b1, b2, a3.trans b3⟩⟩

theorem Rel.mono {a b a' b' : Nat} {d d' : List Int} (h : Rel a b d d') (h1 : a' ≤ a) (h2 : b ≤ b') : Rel a' b' d d' :=
  ⟨h.len, h.perm, fun k hk => h.out k (by omega), fun k k1 k2 => by
    by_cases hk : a ≤ k ∧ k < b
    · obtain ⟨k', c1, c2, c3⟩ := h.src k hk.1 hk.2
      exact ⟨k', by omega, by omega, c3⟩
    · exact ⟨k, k1, k2, h.out k (by omega)⟩⟩

theorem Rel.swp {a b : Nat} {d : List Int} {i j : Nat} (hi : i < d.length) (hj : j < d.length) (h1 : a ≤ i ∧ i < b) (h2 : a ≤ j ∧ j < b) : Rel a b d (swp d i j) :=
  ⟨iF .., aBJ hi hj, fun k hk => by rw [uB hi hj, if_neg (by omega), if_neg (by omega)], fun k k1 k2 => by
    rw [uB hi hj]
    split
    · exact ⟨i, h1.1, h1.2, rfl⟩
    · split
      · exact ⟨j, h2.1, h2.2, rfl⟩
      · exact ⟨k, k1, k2, rfl⟩⟩

theorem Rel.all {a b : Nat} {d d' : List Int} (h : Rel a b d d') {p : Int → Prop} (hp : ∀ k, a ≤ k → k < b → p (gN d k)) : ∀ k, a ≤ k → k < b → p (gN d' k) := fun k k1 k2 => by
  obtain ⟨k', c1, c2, c3⟩ := h.src k k1 k2
  rw [c3]; exact hp k' c1 c2

def qG (a b : Nat) (d : List Int) : Prop := ∀ p q, a ≤ p → p ≤ q → q < b → gN d p ≤ gN d q

theorem sV (a b : Int) : dU a b = some (decide (a < b)) := by simp [dU, lV, cT]

theorem wrN {x : Int} {n : Nat} (h : x = (n : Int)) (hn : n ≤ 9000000000000000000) : IntKind.i64.wrap x = (n : Int) := by
  rw [dM (by omega) (by omega), h]

theorem asN {i n : Nat} (h : i < n) : 0 ≤ (i : Int) ∧ (i : Int) < ((n : Nat) : Int) := by omega

theorem SQ {a b i : Int} {d : List Int} {lo j : Nat} (ha : a = (lo : Nat)) (h1 : lo ≤ j) (hj : j < d.length) (hl : d.length < 4611686018427387904) :
    fL a b i d (j : Nat) = if lo < j ∧ gN d j < gN d (j - 1) then some (.inl (swp d j (j - 1), ((j - 1 : Nat) : Int))) else some (.inr d) := by
  subst ha
  unfold fL
  by_cases h : lo < j
  · have e1 : IntKind.i64.wrap ((j : Int) - 1) = ((j - 1 : Nat) : Int) := wrN (by omega) (by omega)
    have d1 : decide (((lo : Nat) : Int) < ((j : Nat) : Int)) = true := by simp; omega
    rw [e1, d1]
    simp only [true_and, Int.toNat_natCast, sV, cT, cond_true, Option.bind_some, Bool.true_and]
    rw [aM fun _ => asN hj, aM fun _ => asN (by omega)]
    by_cases h2 : gN d j < gN d (j - 1)
    · rw [if_pos ⟨h, h2⟩]
      simp only [gN] at h2
      simp only [h2, decide_true, cond_true]
      rw [aM (asN (by omega)), aM (asN hj), aM (asN hj), aM (asN (by omega))]
      rfl
    · rw [if_neg (fun hh => h2 hh.2)]
      simp only [gN] at h2
      simp only [h2, decide_false, cond_false]
  · have d1 : decide (((lo : Nat) : Int) < ((j : Nat) : Int)) = false := by simp; omega
    rw [if_neg (fun hh => h hh.1), d1]
    simp only [Bool.false_eq_true, false_implies, cT, cond_false, Option.bind_some, Bool.false_and]
    rw [aM trivial, aM trivial]

structure HW (a j i : Nat) (d : List Int) : Prop where
  oth : ∀ p q, a ≤ p → p ≤ q → q ≤ i → p ≠ j → q ≠ j → gN d p ≤ gN d q
  up : ∀ q, j < q → q ≤ i → gN d j ≤ gN d q

theorem HW.done {a j i : Nat} {d : List Int} (h : HW a j i d) (hj : a ≤ j) (hn : ¬ (a < j ∧ gN d j < gN d (j - 1))) : qG a (i + 1) d := by
  intro p q h1 h2 h3
  by_cases hp : p = j
  · by_cases hq : q = j
    · subst hp; subst hq; exact Int.le_refl _
    · subst hp; exact h.up q (by omega) (by omega)
  · by_cases hq : q = j
    · subst hq
      have h4 : ¬ gN d q < gN d (q - 1) := fun hh => hn ⟨by omega, hh⟩
      have := h.oth p (q - 1) h1 (by omega) (by omega) hp (by omega)
      omega
    · exact h.oth p q h1 h2 (by omega) hp hq

theorem HW.next {a j i : Nat} {d : List Int} (h : HW a j i d) (hj : a < j) (hji : j ≤ i) (hi : i < d.length) (hlt : gN d j < gN d (j - 1)) : HW a (j - 1) i (swp d j (j - 1)) := by
  have g := uB (d := d) (i := j) (j := j - 1) (by omega) (by omega)
  refine ⟨fun p q h1 h2 h3 hp hq => ?_, fun q h1 h2 => ?_⟩
  · rw [g, g, if_neg hp, if_neg hq]
    by_cases hpj : p = j
    · rw [if_pos hpj]
      by_cases hqj : q = j
      · rw [if_pos hqj]; exact Int.le_refl _
      · rw [if_neg hqj]; exact h.oth (j - 1) q (by omega) (by omega) h3 (by omega) hqj
    · rw [if_neg hpj]
      by_cases hqj : q = j
      · rw [if_pos hqj]; exact h.oth p (j - 1) h1 (by omega) (by omega) hpj (by omega)
      · rw [if_neg hqj]; exact h.oth p q h1 h2 h3 hpj hqj
  · rw [g, g, if_pos rfl, if_neg (by omega)]
    by_cases hqj : q = j
    · rw [if_pos hqj]; omega
    · rw [if_neg hqj]; exact h.up q (by omega) h2

theorem aDM {a b i : Int} {lo hi : Nat} (ha : a = (lo : Nat)) : ∀ (j : Nat) (d : List Int), lo ≤ j → j ≤ hi → hi < d.length → d.length < 4611686018427387904 → HW lo j hi d →
    ∃ d', lp (fun s : List Int × Int => fL a b i s.1 s.2) (d, (j : Int)) = some d' ∧ Rel lo (hi + 1) d d' ∧ qG lo (hi + 1) d' := by
  intro j
  induction j with
  | zero =>
    intro d h1 h2 h3 h4 h5
    have hs := SQ (a := a) (b := b) (i := i) ha h1 (by omega) h4 (d := d)
    rw [if_neg (by omega)] at hs
    exact ⟨d, cU hs, Rel.refl .., h5.done h1 (by omega)⟩
  | succ j ih =>
    intro d h1 h2 h3 h4 h5
    have hs := SQ (a := a) (b := b) (i := i) ha h1 (by omega) h4 (d := d)
    by_cases h : lo < j + 1 ∧ gN d (j + 1) < gN d (j + 1 - 1)
    · rw [if_pos h] at hs
      obtain ⟨d', e, r, s⟩ := ih (swp d (j + 1) (j + 1 - 1)) (by omega) (by omega) (by rw [iF]; omega) (by rw [iF]; omega) (h5.next h.1 h2 h3 h.2)
      exact ⟨d', (eX hs).trans e, (Rel.swp (by omega) (by omega) (by omega) (by omega)).trans r, s⟩
    · rw [if_neg h] at hs
      exact ⟨d, cU hs, Rel.refl .., h5.done h1 h⟩

theorem XJ {a b : Int} {lo hi : Nat} (ha : a = (lo : Nat)) (hb : b = (hi : Nat)) : ∀ (n i : Nat) (d : List Int), hi - i = n → lo < i → hi ≤ d.length → d.length < 4611686018427387904 → qG lo i d → (i ≤ hi ∨ hi ≤ i) →
    ∃ d', lp (fun s : List Int × Int => dW a b s.1 s.2) (d, (i : Int)) = some d' ∧ Rel lo hi d d' ∧ qG lo hi d' := by
  intro n
  induction n with
  | zero =>
    intro i d h1 h2 h3 h4 h5 _
    refine ⟨d, cU ?_, Rel.refl .., fun p q p1 p2 p3 => h5 p q p1 p2 (by omega)⟩
    show dW _ _ _ _ = _
    have : decide (((i : Nat) : Int) < b) = false := by simp; omega
    simp only [dW, this, cond_false]
  | succ n ih =>
    intro i d h1 h2 h3 h4 h5 _
    obtain ⟨d1, e, r, s⟩ := aDM (a := a) (b := b) (i := (i : Int)) (hi := i) ha i d (by omega) (Nat.le_refl _) (by omega) h4 ⟨fun p q p1 p2 p3 p4 p5 => h5 p q p1 p2 (by omega), fun q q1 q2 => by omega⟩
    obtain ⟨d2, e2, r2, s2⟩ := ih (i + 1) d1 (by omega) (by omega) (by rw [r.len]; exact h3) (by rw [r.len]; exact h4) s (by omega)
    refine ⟨d2, ?_, (r.mono (Nat.le_refl _) (by omega)).trans r2, s2⟩
    rw [eX (s' := (d1, ((i + 1 : Nat) : Int))) ?_, e2]
    show dW _ _ _ _ = _
    have : decide (((i : Nat) : Int) < b) = true := by simp; omega
    simp only [dW, this, cond_true, jO]
    rw [e]
    simp only [Option.bind_some, gT]
    rw [wrN (n := i + 1) (by omega) (by omega)]

theorem KP (lo : Nat) (d : List Int) : qG lo (lo + 1) d := fun p q p1 p2 p3 => by
  have : p = q := by omega
  subst this
  exact Int.le_refl _

theorem aBG {lo hi : Nat} {d : List Int} (h3 : hi ≤ d.length) (h4 : d.length < 4611686018427387904) (h0 : lo ≤ hi) : ∃ d', iA d (lo : Int) (hi : Int) = some d' ∧ Rel lo hi d d' ∧ qG lo hi d' := by
  unfold iA jR
  obtain ⟨d', e, r, s⟩ := XJ (a := (lo : Int)) (b := (hi : Int)) (lo := lo) (hi := hi) rfl rfl (hi - (lo + 1)) (lo + 1) d rfl (by omega) h3 h4 (KP lo d) (by omega)
  rw [wrN (n := lo + 1) (by omega) (by omega), e]
  exact ⟨d', rfl, r, s⟩

theorem aDY {lo hi : Nat} : ∀ (n i j : Nat) (d : List Int), j + 1 - i = n → lo ≤ i → j + 1 ≤ hi ∨ j ≤ i → hi ≤ d.length → d.length < 4611686018427387904 → i < 4611686018427387904 → j < 4611686018427387904 →
    ∃ d', lp (fun s : List Int × Int × Int => dZ s.1 s.2.1 s.2.2) (d, (i : Int), (j : Int)) = some d' ∧ Rel lo hi d d' := by
  intro n
  induction n using Nat.strongRecOn with
  | ind n ih =>
    intro i j d h1 h2 h3 h4 h5 h6 h7
    by_cases h : i < j
    · obtain ⟨d', e, r⟩ := ih (j - 1 + 1 - (i + 1)) (by omega) (i + 1) (j - 1) (swp d i j) rfl (by omega) (by omega) (by rw [iF]; exact h4) (by rw [iF]; exact h5) (by omega) (by omega)
      refine ⟨d', ?_, (Rel.swp (by omega) (by omega) (by omega) (by omega)).trans r⟩
      rw [eX (s' := (swp d i j, ((i + 1 : Nat) : Int), ((j - 1 : Nat) : Int))) ?_, e]
      show dZ _ _ _ = _
      have : decide (((i : Nat) : Int) < ((j : Nat) : Int)) = true := by simp; omega
      simp only [dZ, this, cond_true, Int.toNat_natCast]
      rw [aM (asN (by omega)), aM (asN (by omega)), aM (asN (by omega)), aM (asN (by omega)), wrN (n := i + 1) (by omega) (by omega), wrN (n := j - 1) (by omega) (by omega)]
      rfl
    · refine ⟨d, cU ?_, Rel.refl ..⟩
      show dZ _ _ _ = _
      have : decide (((i : Nat) : Int) < ((j : Nat) : Int)) = false := by simp; omega
      simp only [dZ, this, cond_false]

theorem aA5 {lo hi : Nat} {d : List Int} (h0 : lo < hi) (h3 : hi ≤ d.length) (h4 : d.length < 4611686018427387904) : ∃ d', iK d (lo : Int) (hi : Int) = some d' ∧ Rel lo hi d d' := by
  unfold iK jY
  obtain ⟨d', e, r⟩ := aDY (lo := lo) (hi := hi) (hi - 1 + 1 - lo) lo (hi - 1) d rfl (Nat.le_refl _) (by omega) h3 h4 (by omega) (by omega)
  rw [wrN (n := hi - 1) (by omega) (by omega), e]
  exact ⟨d', rfl, r⟩

end Go.Abs
namespace Go.Abs
open Go
def zD (f hi : Nat) (d : List Int) (r : Nat) : Nat := if 2 * r + 2 < hi ∧ gN d (f + (2 * r + 1)) < gN d (f + (2 * r + 2)) then 2 * r + 2 else 2 * r + 1

theorem PI {f hi r c : Nat} {d : List Int} (hf : f + hi ≤ d.length) (hr : r < hi) (hc : c < hi) (hl : d.length < 2305843009213693951) :
    gW d (hi : Nat) (f : Nat) (r : Nat) (c : Nat) = if gN d (f + r) < gN d (f + c) then some (.inl (swp d (f + r) (f + c), (c : Int))) else some (.inr (.inr d)) := by
  unfold gW
  have e1 : IntKind.i64.wrap ((f : Int) + (r : Int)) = ((f + r : Nat) : Int) := wrN (by omega) (by omega)
  have e2 : IntKind.i64.wrap ((f : Int) + (c : Int)) = ((f + c : Nat) : Int) := wrN (by omega) (by omega)
  rw [e1, e2]
  simp only [Int.toNat_natCast, sV, Option.bind_some]
  rw [aM (asN (by omega)), aM (asN (by omega))]
  by_cases h : gN d (f + r) < gN d (f + c)
  · rw [if_pos h]
    simp only [gN] at h
    simp only [h, decide_true, Bool.not_true, cond_false]
    rw [aM (asN (by omega)), aM (asN (by omega)), aM (asN (by omega)), aM (asN (by omega))]
    rfl
  · rw [if_neg h]
    simp only [gN] at h
    simp only [h, decide_false, Bool.not_false, cond_true]

theorem aAP {f hi r : Nat} {d : List Int} (hf : f + hi ≤ d.length) (hr : r < hi) (hl : d.length < 2305843009213693951) :
    dR (hi : Nat) (f : Nat) d (r : Nat) = if hi ≤ 2 * r + 1 then some (.inr (.inl d)) else if gN d (f + r) < gN d (f + zD f hi d r) then some (.inl (swp d (f + r) (f + zD f hi d r), (zD f hi d r : Int))) else some (.inr (.inr d)) := by
  unfold dR
  have e1 : IntKind.i64.wrap (IntKind.i64.wrap ((2 : Int) * (r : Int)) + 1) = ((2 * r + 1 : Nat) : Int) := by
    rw [wrN (x := (2 : Int) * (r : Int)) (n := 2 * r) (by omega) (by omega)]; exact wrN (by omega) (by omega)
  have e2 : IntKind.i64.wrap (((2 * r + 1 : Nat) : Int) + 1) = ((2 * r + 2 : Nat) : Int) := wrN (by omega) (by omega)
  simp only [e1, e2]
  by_cases h : hi ≤ 2 * r + 1
  · rw [if_pos h]
    have : decide (((hi : Nat) : Int) ≤ ((2 * r + 1 : Nat) : Int)) = true := by simp; omega
    rw [this, cond_true]
  · rw [if_neg h]
    have d1 : decide (((hi : Nat) : Int) ≤ ((2 * r + 1 : Nat) : Int)) = false := by simp; omega
    rw [d1, cond_false]
    by_cases h2 : 2 * r + 2 < hi
    · have d2 : decide (((2 * r + 2 : Nat) : Int) < ((hi : Nat) : Int)) = true := by simp; omega
      have e3 : IntKind.i64.wrap ((f : Int) + ((2 * r + 1 : Nat) : Int)) = ((f + (2 * r + 1) : Nat) : Int) := wrN (by omega) (by omega)
      have e4 : IntKind.i64.wrap (((f + (2 * r + 1) : Nat) : Int) + 1) = ((f + (2 * r + 2) : Nat) : Int) := wrN (by omega) (by omega)
      simp only [d2, e3, e4, Int.toNat_natCast, sV, cT, cond_true, Option.bind_some, Bool.true_and]
      rw [aM fun _ => asN (by omega), aM fun _ => asN (by omega)]
      by_cases h3 : gN d (f + (2 * r + 1)) < gN d (f + (2 * r + 2))
      · have hb : zD f hi d r = 2 * r + 2 := if_pos ⟨h2, h3⟩
        simp only [gN] at h3
        simp only [h3, decide_true, cond_true]
        rw [PI hf hr h2 hl, hb]
      · have hb : zD f hi d r = 2 * r + 1 := if_neg fun hh => h3 hh.2
        simp only [gN] at h3
        simp only [h3, decide_false, cond_false]
        rw [PI hf hr (by omega) hl, hb]
    · have d2 : decide (((2 * r + 2 : Nat) : Int) < ((hi : Nat) : Int)) = false := by simp; omega
      have hb : zD f hi d r = 2 * r + 1 := if_neg fun hh => h2 hh.1
      simp only [d2, Bool.false_eq_true, false_implies, cT, cond_false, Option.bind_some, Bool.false_and]
      rw [aM trivial, aM trivial, PI hf hr (by omega) hl, hb]

def chd (c p : Nat) : Prop := c = 2 * p + 1 ∨ c = 2 * p + 2

def Hp (f lo hi : Nat) (d : List Int) : Prop := ∀ i c, lo ≤ i → chd c i → c < hi → gN d (f + c) ≤ gN d (f + i)

structure HpX (f lo hi r : Nat) (d : List Int) : Prop where
  oth : ∀ i c, lo ≤ i → i ≠ r → chd c i → c < hi → gN d (f + c) ≤ gN d (f + i)
  up : ∀ p c, lo ≤ p → chd r p → chd c r → c < hi → gN d (f + c) ≤ gN d (f + p)

theorem aBq {f hi r : Nat} {d : List Int} (h : ¬ hi ≤ 2 * r + 1) : chd (zD f hi d r) r ∧ zD f hi d r < hi ∧ ∀ c, chd c r → c < hi → gN d (f + c) ≤ gN d (f + zD f hi d r) := by
  unfold zD
  split
  · rename_i h1
    refine ⟨.inr rfl, h1.1, fun c hc hlt => ?_⟩
    rcases hc with rfl | rfl
    · omega
    · exact Int.le_refl _
  · rename_i h1
    refine ⟨.inl rfl, by omega, fun c hc hlt => ?_⟩
    rcases hc with rfl | rfl
    · exact Int.le_refl _
    · have : ¬ gN d (f + (2 * r + 1)) < gN d (f + (2 * r + 2)) := fun hh => h1 ⟨hlt, hh⟩
      omega

theorem HpX.done {f lo hi r : Nat} {d : List Int} (h : HpX f lo hi r d) (hr : ∀ c, chd c r → c < hi → gN d (f + c) ≤ gN d (f + r)) : Hp f lo hi d := by
  intro i c h1 h2 h3
  by_cases e : i = r
  · subst e; exact hr c h2 h3
  · exact h.oth i c h1 e h2 h3

theorem HpX.next {f lo hi r c : Nat} {d : List Int} (h : HpX f lo hi r d) (hf : f + hi ≤ d.length) (hlo : lo ≤ r) (hrh : r < hi) (hc : chd c r) (hch : c < hi) (hbig : ∀ k, chd k r → k < hi → gN d (f + k) ≤ gN d (f + c)) (hlt : gN d (f + r) < gN d (f + c)) : HpX f lo hi c (swp d (f + r) (f + c)) := by
  have g := uB (d := d) (i := f + r) (j := f + c) (by omega) (by omega)
  have hcr : r < c := by unfold chd at hc; omega
  refine ⟨fun i k h1 h2 h3 h4 => ?_, fun p k h1 h2 h3 h4 => ?_⟩
  · rw [g, g, if_neg (show ¬ f + i = f + c by omega)]
    by_cases hir : i = r
    · subst hir
      rw [if_pos (show f + i = f + i from rfl)]
      by_cases hkc : k = c
      · subst hkc; rw [if_pos rfl]; omega
      · rw [if_neg (by omega), if_neg (by unfold chd at h3; omega)]
        exact hbig k h3 h4
    · rw [if_neg (show ¬ f + i = f + r by omega)]
      have hkc : k ≠ c := by intro e; subst e; unfold chd at h3 hc; omega
      rw [if_neg (by omega)]
      by_cases hkr : k = r
      · subst hkr
        rw [if_pos rfl]
        exact h.up i c h1 h3 hc hch
      · rw [if_neg (by omega)]
        exact h.oth i k h1 hir h3 h4
  · have hp : p = r := by unfold chd at h2 hc; omega
    subst hp
    have hk : c < k := by unfold chd at h3; omega
    rw [g, g, if_neg (by omega), if_neg (by omega), if_neg (by omega), if_pos rfl]
    exact h.oth c k (by omega) (by omega) h3 h4

theorem aC3 {f lo hi : Nat} : ∀ (n r : Nat) (d : List Int), hi - r = n → f + hi ≤ d.length → lo ≤ r → r < hi → d.length < 2305843009213693951 → HpX f lo hi r d →
    ∃ d', (lp (fun s : List Int × Int => dR (hi : Nat) (f : Nat) s.1 s.2) (d, (r : Int)) = some (.inl d') ∨ lp (fun s : List Int × Int => dR (hi : Nat) (f : Nat) s.1 s.2) (d, (r : Int)) = some (.inr d')) ∧ Rel f (f + hi) d d' ∧ Hp f lo hi d' := by
  intro n
  induction n using Nat.strongRecOn with
  | ind n ih =>
    intro r d h1 h2 h3 h4 h5 h6
    have hs := aAP h2 h4 h5
    by_cases h : hi ≤ 2 * r + 1
    · rw [if_pos h] at hs
      exact ⟨d, .inl (cU hs), Rel.refl .., h6.done fun c hc hlt => by unfold chd at hc; omega⟩
    · rw [if_neg h] at hs
      obtain ⟨b1, b2, b3⟩ := aBq (f := f) (d := d) h
      by_cases hlt : gN d (f + r) < gN d (f + zD f hi d r)
      · rw [if_pos hlt] at hs
        have hb : r < zD f hi d r := by unfold chd at b1; omega
        obtain ⟨d', e, rl, hp⟩ := ih (hi - zD f hi d r) (by omega) (zD f hi d r) _ rfl (by rw [iF]; exact h2) (by omega) b2 (by rw [iF]; exact h5) (h6.next h2 h3 h4 b1 b2 b3 hlt)
        exact ⟨d', e.imp (fun e => (eX hs).trans e) (fun e => (eX hs).trans e), (Rel.swp (by omega) (by omega) (by omega) (by omega)).trans rl, hp⟩
      · rw [if_neg hlt] at hs
        exact ⟨d, .inr (cU hs), Rel.refl .., h6.done fun c hc hc2 => by have := b3 c hc hc2; omega⟩

theorem YM {f lo hi : Nat} {d : List Int} (h2 : f + hi ≤ d.length) (h5 : d.length < 2305843009213693951) (hlo : lo < 2305843009213693951) (h6 : HpX f lo hi lo d) :
    ∃ d', fT d (lo : Nat) (hi : Nat) (f : Nat) = some d' ∧ Rel f (f + hi) d d' ∧ Hp f lo hi d' := by
  unfold fT kX
  by_cases h : lo < hi
  · obtain ⟨d', e, r, p⟩ := aC3 (hi - lo) lo d rfl h2 (Nat.le_refl _) h h5 h6
    rcases e with e | e <;> rw [e] <;> exact ⟨d', rfl, r, p⟩
  · refine ⟨d, ?_, Rel.refl .., fun i c h1 hc hlt => by unfold chd at hc; omega⟩
    have hs : dR (hi : Nat) (f : Nat) d (lo : Nat) = some (.inr (.inl d)) := by
      unfold dR
      have e1 : IntKind.i64.wrap (IntKind.i64.wrap ((2 : Int) * (lo : Int)) + 1) = ((2 * lo + 1 : Nat) : Int) := by
        rw [wrN (x := (2 : Int) * (lo : Int)) (n := 2 * lo) (by omega) (by omega)]; exact wrN (by omega) (by omega)
      have : decide (((hi : Nat) : Int) ≤ ((2 * lo + 1 : Nat) : Int)) = true := by simp; omega
      simp only [e1, this, cond_true]
    rw [cU (show (fun s : List Int × Int => dR (hi : Nat) (f : Nat) s.1 s.2) (d, (lo : Int)) = _ from hs)]
    rfl

theorem aA6 {f k : Nat} {d : List Int} (h : Hp f 0 k d) : ∀ i, i < k → gN d (f + i) ≤ gN d f := by
  intro i
  induction i using Nat.strongRecOn with
  | ind i ih =>
    intro hi
    by_cases h0 : i = 0
    · subst h0; exact Int.le_refl _
    · have h1 := h ((i - 1) / 2) i (Nat.zero_le _) (by unfold chd; omega) hi
      have h2 := ih ((i - 1) / 2) (by omega) (by omega)
      omega

theorem XX {f hi : Nat} : ∀ (k : Nat) (d : List Int), f + hi ≤ d.length → k < 2305843009213693951 → d.length < 2305843009213693951 → Hp f k hi d →
    ∃ d', lp (fun s : List Int × Int => eN (f : Nat) 0 (hi : Nat) s.1 s.2) (d, (k : Int) - 1) = some d' ∧ Rel f (f + hi) d d' ∧ Hp f 0 hi d'
  | 0, d, _, _, _, h => by
    refine ⟨d, cU ?_, Rel.refl .., h⟩
    show eN _ _ _ _ _ = _
    have : decide ((0 : Int) ≤ ((0 : Nat) : Int) - 1) = false := by simp
    simp only [eN, this, cond_false]
  | k + 1, d, h1, h2, h3, h => by
    obtain ⟨d1, e, r, p⟩ := YM (f := f) (lo := k) (hi := hi) h1 h3 (by omega) ⟨fun i c a1 a2 a3 a4 => h i c (by omega) a3 a4, fun p c a1 a2 => by unfold chd at a2; omega⟩
    obtain ⟨d2, e2, r2, p2⟩ := XX (f := f) (hi := hi) k d1 (by rw [r.len]; exact h1) (by omega) (by rw [r.len]; exact h3) p
    refine ⟨d2, ?_, r.trans r2, p2⟩
    rw [eX (s' := (d1, (k : Int) - 1)) ?_, e2]
    show eN _ _ _ _ _ = _
    have g1 : (((k + 1 : Nat) : Int) - 1) = (k : Int) := by omega
    have g2 : decide ((0 : Int) ≤ (k : Int)) = true := by simp
    simp only [eN, g1, g2, cond_true, e, Option.bind_some]
    rw [dM (by omega) (by omega)]

theorem aBp {f n : Nat} : ∀ (k : Nat) (d : List Int), k ≤ n → f + n ≤ d.length → d.length < 2305843009213693951 → Hp f 0 k d → qG (f + k) (f + n) d → (∀ p q, f ≤ p → p < f + k → f + k ≤ q → q < f + n → gN d p ≤ gN d q) →
    ∃ d', lp (fun s : List Int × Int => eO (f : Nat) 0 s.1 s.2) (d, (k : Int) - 1) = some d' ∧ Rel f (f + n) d d' ∧ qG f (f + n) d'
  | 0, d, _, _, _, _, hs, _ => by
    refine ⟨d, cU ?_, Rel.refl .., hs⟩
    show eO _ _ _ _ = _
    have : decide ((0 : Int) ≤ ((0 : Nat) : Int) - 1) = false := by simp
    simp only [eO, this, cond_false]
  | k + 1, d, h1, h2, h3, h, hs, hb => by
    have g := uB (d := d) (i := f) (j := f + k) (by omega) (by omega)
    have hroot := aA6 h
    obtain ⟨d1, e, r, p⟩ := YM (f := f) (lo := 0) (hi := k) (d := swp d f (f + k)) (by rw [iF]; omega) (by rw [iF]; exact h3) (by omega) ⟨fun i c a1 a2 a3 a4 => by
      rw [g, g, if_neg (by unfold chd at a3; omega), if_neg (by unfold chd at a3; omega), if_neg (by unfold chd at a3; omega), if_neg (by omega)]
      exact h i c (by omega) a3 (by omega), fun p c a1 a2 => by unfold chd at a2; omega⟩
    have rs : Rel f (f + n) d (swp d f (f + k)) := Rel.swp (i := f) (j := f + k) (by omega) (by omega) (by omega) (by omega)
    have top : gN d1 (f + k) = gN d f := by rw [r.out _ (by omega), g, if_pos rfl]
    have tail : ∀ q, f + k < q → gN d1 q = gN d q := fun q hq => by rw [r.out _ (by omega), g, if_neg (by omega), if_neg (by omega)]
    have low : ∀ p, f ≤ p → p < f + k → ∃ p', f ≤ p' ∧ p' < f + (k + 1) ∧ gN d1 p = gN d p' := fun p p1 p2 => by
      obtain ⟨p', a1, a2, a3⟩ := r.src p p1 p2
      rw [g, if_neg (by omega)] at a3
      by_cases hp : p' = f
      · rw [if_pos hp] at a3; exact ⟨f + k, by omega, by omega, a3⟩
      · rw [if_neg hp] at a3; exact ⟨p', a1, by omega, a3⟩
    obtain ⟨d2, e2, r2, s2⟩ := aBp (f := f) (n := n) k d1 (by omega) (by rw [r.len, iF]; exact h2) (by rw [r.len, iF]; exact h3) p (fun p q p1 p2 p3 => by
      by_cases hq : q = f + k
      · have : p = f + k := by omega
        rw [hq, this]; exact Int.le_refl _
      · rw [tail q (by omega)]
        by_cases hp : p = f + k
        · rw [hp, top]; exact hb f q (Nat.le_refl _) (by omega) (by omega) p3
        · rw [tail p (by omega)]; exact hs p q (by omega) p2 p3) (fun p q p1 p2 p3 p4 => by
      obtain ⟨p', a1, a2, a3⟩ := low p p1 p2
      rw [a3]
      by_cases hq : q = f + k
      · rw [hq, top]
        have := hroot (p' - f) (by omega)
        rw [show f + (p' - f) = p' by omega] at this
        exact this
      · rw [tail q (by omega)]; exact hb p' q a1 a2 (by omega) p4)
    refine ⟨d2, ?_, (rs.trans (r.mono (Nat.le_refl _) (by omega))).trans r2, s2⟩
    rw [eX (s' := (d1, (k : Int) - 1)) ?_, e2]
    show eO _ _ _ _ = _
    have g1 : (((k + 1 : Nat) : Int) - 1) = (k : Int) := by omega
    have g2 : decide ((0 : Int) ≤ (k : Int)) = true := by simp
    have g3 : IntKind.i64.wrap ((f : Int) + (k : Int)) = ((f + k : Nat) : Int) := wrN (by omega) (by omega)
    simp only [eO, g1, g2, g3, cond_true, Int.toNat_natCast]
    rw [aM (asN (by omega)), aM (asN (by omega)), aM (asN (by omega)), aM (asN (by omega))]
    have e' : fT (List.set (List.set d f (List.getD d (f + k) default)) (f + k) (List.getD d f default)) 0 (k : Int) (f : Int) = some d1 := e
    rw [e']
    simp only [Option.bind_some]
    rw [dM (by omega) (by omega)]

theorem aBn {lo hi : Nat} {d : List Int} (h0 : lo < hi) (h1 : hi ≤ d.length) (h3 : d.length < 2305843009213693951) : ∃ d', jV d (lo : Int) (hi : Int) = some d' ∧ Rel lo hi d d' ∧ qG lo hi d' := by
  unfold jV
  rw [aM (by decide)]
  have e1 : IntKind.i64.wrap ((hi : Int) - (lo : Int)) = ((hi - lo : Nat) : Int) := wrN (by omega) (by omega)
  have e2 : IntKind.i64.wrap (((hi - lo : Nat) : Int) - 1) = ((hi - lo - 1 : Nat) : Int) := wrN (by omega) (by omega)
  have e3 : IntKind.i64.wrap (Int.tdiv ((hi - lo - 1 : Nat) : Int) 2) = (((hi - lo - 1) / 2 + 1 : Nat) : Int) - 1 := by
    have : Int.tdiv ((hi - lo - 1 : Nat) : Int) 2 = (((hi - lo - 1) / 2 : Nat) : Int) := by rw [Int.tdiv_eq_ediv_of_nonneg (by omega)]; omega
    rw [this, wrN (n := (hi - lo - 1) / 2) rfl (by omega)]; omega
  rw [e1, e2, e3]
  unfold kY
  obtain ⟨d1, a1, r1, p1⟩ := XX (f := lo) (hi := hi - lo) ((hi - lo - 1) / 2 + 1) d (by omega) (by omega) h3 (fun i c b1 b2 b3 => by unfold chd at b2; omega)
  rw [a1]
  simp only [Option.bind_some, jL, kZ]
  obtain ⟨d2, a2, r2, s2⟩ := aBp (f := lo) (n := hi - lo) (hi - lo) d1 (Nat.le_refl _) (by rw [r1.len]; omega) (by rw [r1.len]; exact h3) p1 (fun p q b1 b2 b3 => by omega) (fun p q b1 b2 b3 b4 => by omega)
  have e4 : IntKind.i64.wrap (((hi - lo : Nat) : Int) - 1) = ((hi - lo : Nat) : Int) - 1 := dM (by omega) (by omega)
  rw [e4, a2]
  have : lo + (hi - lo) = hi := by omega
  rw [this] at r1 r2 s2
  exact ⟨d2, rfl, r1.trans r2, s2⟩

end Go.Abs
namespace Go.Abs
open Go
def KZ : ByteArray := ⟨#[0, 1, 2, 2, 3, 3, 3, 3, 4, 4, 4, 4, 4, 4, 4, 4, 5, 5, 5, 5, 5, 5, 5, 5, 5, 5, 5, 5, 5, 5, 5, 5, 6, 6, 6, 6, 6, 6, 6, 6, 6, 6, 6, 6, 6, 6, 6, 6, 6, 6, 6, 6, 6, 6, 6, 6, 6, 6, 6, 6, 6, 6, 6, 6, 7, 7, 7, 7, 7, 7, 7, 7, 7, 7, 7, 7, 7, 7, 7, 7, 7, 7, 7, 7, 7, 7, 7, 7, 7, 7, 7, 7, 7, 7, 7, 7, 7, 7, 7, 7, 7, 7, 7, 7, 7, 7, 7, 7, 7, 7, 7, 7, 7, 7, 7, 7, 7, 7, 7, 7, 7, 7, 7, 7, 7, 7, 7, 7, 8, 8, 8, 8, 8, 8, 8, 8, 8, 8, 8, 8, 8, 8, 8, 8, 8, 8, 8, 8, 8, 8, 8, 8, 8, 8, 8, 8, 8, 8, 8, 8, 8, 8, 8, 8, 8, 8, 8, 8, 8, 8, 8, 8, 8, 8, 8, 8, 8, 8, 8, 8, 8, 8, 8, 8, 8, 8, 8, 8, 8, 8, 8, 8, 8, 8, 8, 8, 8, 8, 8, 8, 8, 8, 8, 8, 8, 8, 8, 8, 8, 8, 8, 8, 8, 8, 8, 8, 8, 8, 8, 8, 8, 8, 8, 8, 8, 8, 8, 8, 8, 8, 8, 8, 8, 8, 8, 8, 8, 8, 8, 8, 8, 8, 8, 8, 8, 8, 8, 8, 8, 8, 8, 8, 8, 8, 8, 8]⟩

theorem aAJ : ∀ i : Fin 256, i.val ≠ 0 → ∃ k : Fin 8, bt KZ (i.val : Int) = (k.val : Int) + 1 ∧ 2 ^ k.val ≤ i.val := by decide +kernel

theorem QE : ByteArray.size KZ = 256 := by decide +kernel

theorem aCC {x : Int} (h : 0 ≤ x) (h2 : x ≤ 255) : IntKind.u8.wrap x = x := by
  simp only [IntKind.wrap, IntKind.bits, IntKind.signed]
  simp
  omega

theorem IS {x : Int} (h : 0 ≤ x) (h2 : x ≤ 9223372036854775807) : IntKind.u64.wrap x = x := by
  simp only [IntKind.wrap, IntKind.bits, IntKind.signed]
  simp
  omega

theorem aAG {x n : Int} (h1 : 1 ≤ x) (h2 : x ≤ 255) (hn : 0 ≤ n ∧ n ≤ 100) : ∃ k : Nat, mN x n = some (n + k + 1) ∧ k ≤ 7 ∧ (2 : Int) ^ k ≤ x := by
  obtain ⟨k, e, hk⟩ := aAJ ⟨x.toNat, by omega⟩ (by simp; omega)
  refine ⟨k.val, ?_, by omega, ?_⟩
  · show (bF (0 ≤ (IntKind.u8.wrap x) ∧ (IntKind.u8.wrap x) < ((ByteArray.size KZ : Nat) : Int)) <| some (IntKind.i64.wrap (n + (IntKind.i64.wrap (bt KZ (IntKind.u8.wrap x)))))) = _
    rw [aCC (by omega) h2, aM (by rw [QE]; omega)]
    simp only at e
    rw [Int.toNat_of_nonneg (by omega)] at e
    rw [e, dM (n := (k.val : Int) + 1) (by omega) (by omega), dM (by omega) (by omega)]
    congr 1
    omega
  · simp only at hk
    have : ((2 ^ k.val : Nat) : Int) ≤ ((x.toNat : Nat) : Int) := by exact_mod_cast hk
    rw [Int.toNat_of_nonneg (by omega)] at this
    simpa using this

theorem LD {x m : Int} (hm : 0 < m) : Int.fdiv x m = x / m := Int.fdiv_eq_ediv_of_nonneg _ (by omega)

theorem aAs {x n : Int} (h1 : 1 ≤ x) (h2 : x ≤ 65535) (hn : 0 ≤ n ∧ n ≤ 90) : ∃ k : Nat, lA x n = some (n + k + 1) ∧ k ≤ 15 ∧ (2 : Int) ^ k ≤ x := by
  unfold lA
  by_cases h : 256 ≤ x
  · have hd : Int.fdiv x (2 ^ (min (Int.toNat (8 : Int)) 64)) = x / 256 := by rw [show (2 ^ (min (Int.toNat (8 : Int)) 64) : Int) = 256 from by decide]; exact LD (by omega)
    obtain ⟨k, e, h3, h4⟩ := aAG (x := x / 256) (n := n + 8) (by omega) (by omega) (by omega)
    refine ⟨k + 8, ?_, by omega, ?_⟩
    · simp only [h, decide_true, cond_true]
      rw [aM (by decide), hd, dM (n := n + 8) (by omega) (by omega), e]
      congr 1; omega
    · rw [Int.pow_add]; have : (2 : Int) ^ 8 = 256 := by decide
      rw [this]; omega
  · obtain ⟨k, e, h3, h4⟩ := aAG (x := x) (n := n) h1 (by omega) (by omega)
    exact ⟨k, by simp only [h, decide_false, cond_false, e], by omega, h4⟩

theorem aAX {x n : Int} (h1 : 1 ≤ x) (h2 : x ≤ 4294967295) (hn : 0 ≤ n ∧ n ≤ 70) : ∃ k : Nat, lI x n = some (n + k + 1) ∧ k ≤ 31 ∧ (2 : Int) ^ k ≤ x := by
  unfold lI
  by_cases h : 65536 ≤ x
  · have hd : Int.fdiv x (2 ^ (min (Int.toNat (16 : Int)) 64)) = x / 65536 := by rw [show (2 ^ (min (Int.toNat (16 : Int)) 64) : Int) = 65536 from by decide]; exact LD (by omega)
    obtain ⟨k, e, h3, h4⟩ := aAs (x := x / 65536) (n := n + 16) (by omega) (by omega) (by omega)
    refine ⟨k + 16, ?_, by omega, ?_⟩
    · simp only [h, decide_true, cond_true]
      rw [aM (by decide), hd, dM (n := n + 16) (by omega) (by omega), e]
      congr 1; omega
    · rw [Int.pow_add]; have : (2 : Int) ^ 16 = 65536 := by decide
      rw [this]; omega
  · obtain ⟨k, e, h3, h4⟩ := aAs (x := x) (n := n) h1 (by omega) (by omega)
    exact ⟨k, by simp only [h, decide_false, cond_false, e], by omega, h4⟩

theorem aAE {x : Int} (h1 : 1 ≤ x) (h2 : x ≤ 9223372036854775807) : ∃ k : Nat, kU x = some ((k : Int) + 1) ∧ k ≤ 63 ∧ (2 : Int) ^ k ≤ x := by
  unfold kU oX
  by_cases h : 4294967296 ≤ x
  · have hd : Int.fdiv x (2 ^ (min (Int.toNat (32 : Int)) 64)) = x / 4294967296 := by rw [show (2 ^ (min (Int.toNat (32 : Int)) 64) : Int) = 4294967296 from by decide]; exact LD (by omega)
    obtain ⟨k, e, h3, h4⟩ := aAX (x := x / 4294967296) (n := 32) (by omega) (by omega) (by omega)
    refine ⟨k + 32, ?_, by omega, ?_⟩
    · simp only [h, decide_true, cond_true]
      rw [aM (by decide), hd, e]
      simp only [Option.bind_some]
      congr 1; omega
    · rw [Int.pow_add]; have : (2 : Int) ^ 32 = 4294967296 := by decide
      rw [this]; omega
  · obtain ⟨k, e, h3, h4⟩ := aAX (x := x) (n := 0) h1 (by omega) (by omega)
    refine ⟨k, ?_, by omega, h4⟩
    simp only [h, decide_false, cond_false, e, Option.bind_some]
    congr 1; omega

theorem aBb : bt KZ 0 = 0 := by decide +kernel

theorem aBW : kU 0 = some 0 := by
  have h3 : mN 0 0 = some 0 := by
    show (bF (0 ≤ (IntKind.u8.wrap 0) ∧ (IntKind.u8.wrap 0) < ((ByteArray.size KZ : Nat) : Int)) <| some (IntKind.i64.wrap (0 + (IntKind.i64.wrap (bt KZ (IntKind.u8.wrap 0)))))) = _
    rw [aCC (by omega) (by omega), aM (by rw [QE]; omega), aBb, dM (n := 0) (by omega) (by omega), dM (by omega) (by omega)]
    rfl
  have h2 : lA 0 0 = some 0 := h3
  have h1 : lI 0 0 = some 0 := h2
  unfold kU oX
  have : decide ((4294967296 : Int) ≤ 0) = false := by decide
  rw [this, cond_false, h1]
  rfl

theorem aCl {n : Nat} (h1 : 1 ≤ n) (h2 : n < 2305843009213693951) : ∃ m : Int, lQ (n : Int) = some m ∧ 1 ≤ m ∧ m ≤ 2 * n := by
  unfold lQ
  rw [IS (by omega) (by omega)]
  obtain ⟨k, e, h3, h4⟩ := aAE (x := (n : Int)) (by omega) (by omega)
  have hk : (2 : Int) ^ (k + 1) = 2 * 2 ^ k := by rw [Int.pow_succ]; omega
  have hp : (1 : Int) ≤ 2 ^ k := by
    have : (0 : Int) < 2 ^ k := Int.pow_pos (by decide)
    omega
  rw [e]
  simp only [Option.bind_some]
  rw [aM (by omega), show min (Int.toNat ((k : Int) + 1)) 64 = k + 1 by omega, Int.one_mul, hk, IS (by omega) (by omega)]
  exact ⟨_, rfl, by omega, by omega⟩

theorem aDu (x : Int) {m : Int} (h0 : 0 ≤ m) (hm : m ≤ 9223372036854775807) : 0 ≤ bX .and .u64 x m ∧ bX .and .u64 x m ≤ m := by
  have h1 : (BitVec.ofInt IntKind.u64.bits x &&& BitVec.ofInt IntKind.u64.bits m).toNat ≤ m.toNat := by
    rw [BitVec.toNat_and]
    refine Nat.le_trans Nat.and_le_right ?_
    rw [BitVec.toNat_ofInt]
    have : IntKind.u64.bits = 64 := rfl
    rw [this]
    omega
  have h2 : bX .and .u64 x m = ((BitVec.ofInt IntKind.u64.bits x &&& BitVec.ofInt IntKind.u64.bits m).toNat : Int) := IS (by omega) (by omega)
  rw [h2]
  omega

theorem ZR (r : Int) : ∃ x, mD r = some x := by
  unfold mD
  rw [aM (by decide), aM (by decide), aM (by decide)]
  exact ⟨_, rfl⟩

theorem aAO {lo i o : Nat} {d : List Int} (l r m : Int) (hi : i < d.length) (ho : lo + o < d.length) (hl : d.length < 2305843009213693951) :
    fJ d (lo : Nat) l r m (i : Nat) (o : Nat) = some (.inl (swp d i (lo + o), r, ((i + 1 : Nat) : Int))) := by
  unfold fJ
  rw [wrN (x := (lo : Int) + (o : Int)) (n := lo + o) (by omega) (by omega), wrN (n := i + 1) (by omega) (by omega)]
  simp only [Int.toNat_natCast]
  rw [aM (asN (by omega)), aM (asN (by omega)), aM (asN (by omega)), aM (asN (by omega))]
  rfl

theorem aDD {lo n : Nat} {m : Int} (hm : 1 ≤ m ∧ m ≤ 2 * n) (h8 : 8 ≤ n) : ∀ (q i : Nat) (r : Int) (d : List Int), lo + n / 4 * 2 + 2 - i = q → lo ≤ i → i ≤ lo + n / 4 * 2 + 2 → lo + n ≤ d.length → d.length < 2305843009213693951 →
    ∃ d', lp (fun s : List Int × Int × Int => dK (lo : Nat) (n : Nat) m s.1 s.2.1 s.2.2) (d, r, (i : Int)) = some d' ∧ Rel lo (lo + n) d d' := by
  have t4 : IntKind.i64.wrap (Int.tdiv (n : Int) 4) = ((n / 4 : Nat) : Int) ∨ 2305843009213693951 ≤ n := by
    by_cases h : n < 2305843009213693951
    · left
      have : Int.tdiv (n : Int) 4 = ((n / 4 : Nat) : Int) := by rw [Int.tdiv_eq_ediv_of_nonneg (by omega)]; omega
      rw [this]; exact wrN rfl (by omega)
    · right; omega
  intro q
  induction q with
  | zero =>
    intro i r d h1 h2 h3 h4 h5
    have t4 := t4.resolve_right (by omega)
    refine ⟨d, cU ?_, Rel.refl ..⟩
    show dK _ _ _ _ _ _ = _
    unfold dK
    rw [aM (by decide), t4, wrN (x := ((n / 4 : Nat) : Int) * 2) (n := n / 4 * 2) (by omega) (by omega), wrN (x := (lo : Int) + ((n / 4 * 2 : Nat) : Int)) (n := lo + n / 4 * 2) (by omega) (by omega), wrN (x := ((lo + n / 4 * 2 : Nat) : Int) + 1) (n := lo + n / 4 * 2 + 1) (by omega) (by omega)]
    have : decide (((i : Nat) : Int) ≤ ((lo + n / 4 * 2 + 1 : Nat) : Int)) = false := by simp; omega
    rw [this, cond_false]
  | succ q ih =>
    intro i r d h1 h2 h3 h4 h5
    have t4 := t4.resolve_right (by omega)
    obtain ⟨x, hx⟩ := ZR r
    obtain ⟨a1, a2⟩ := aDu x.1 (m := m - 1) (by omega) (by omega)
    have hd : decide (((i : Nat) : Int) ≤ ((lo + n / 4 * 2 + 1 : Nat) : Int)) = true := by simp; omega
    have step : ∃ o, o < n ∧ dK (lo : Nat) (n : Nat) m d r (i : Nat) = some (.inl (swp d i (lo + o), x.2, ((i + 1 : Nat) : Int))) := by
      unfold dK
      rw [aM (by decide), t4, wrN (x := ((n / 4 : Nat) : Int) * 2) (n := n / 4 * 2) (by omega) (by omega), wrN (x := (lo : Int) + ((n / 4 * 2 : Nat) : Int)) (n := lo + n / 4 * 2) (by omega) (by omega), wrN (x := ((lo + n / 4 * 2 : Nat) : Int) + 1) (n := lo + n / 4 * 2 + 1) (by omega) (by omega), hd, cond_true, hx]
      simp only [Option.bind_some]
      rw [IS (x := m - 1) (by omega) (by omega)]
      have e1 : IntKind.i64.wrap (bX .and .u64 x.1 (m - 1)) = (((bX .and .u64 x.1 (m - 1)).toNat : Nat) : Int) := wrN (by omega) (by omega)
      rw [e1]
      by_cases h : (n : Int) ≤ (((bX .and .u64 x.1 (m - 1)).toNat : Nat) : Int)
      · refine ⟨(bX .and .u64 x.1 (m - 1)).toNat - n, by omega, ?_⟩
        simp only [h, decide_true, cond_true]
        rw [wrN (x := (((bX .and .u64 x.1 (m - 1)).toNat : Nat) : Int) - (n : Int)) (n := (bX .and .u64 x.1 (m - 1)).toNat - n) (by omega) (by omega)]
        exact aAO _ _ _ (by omega) (by omega) h5
      · refine ⟨(bX .and .u64 x.1 (m - 1)).toNat, by omega, ?_⟩
        simp only [h, decide_false, cond_false]
        exact aAO _ _ _ (by omega) (by omega) h5
    obtain ⟨o, ho, hs⟩ := step
    obtain ⟨d', e, rl⟩ := ih (i + 1) x.2 (swp d i (lo + o)) (by omega) (by omega) (by omega) (by rw [iF]; exact h4) (by rw [iF]; exact h5)
    exact ⟨d', (eX (show (fun s : List Int × Int × Int => dK (lo : Nat) (n : Nat) m s.1 s.2.1 s.2.2) (d, r, (i : Int)) = _ from hs)).trans e, (Rel.swp (i := i) (j := lo + o) (by omega) (by omega) (by omega) (by omega)).trans rl⟩

theorem aA9 {lo hi : Nat} {d : List Int} (h8 : 8 ≤ hi - lo) (h1 : hi ≤ d.length) (h2 : d.length < 2305843009213693951) : ∃ d', hY d (lo : Int) (hi : Int) = some d' ∧ Rel lo hi d d' := by
  unfold hY
  have e1 : IntKind.i64.wrap ((hi : Int) - (lo : Int)) = ((hi - lo : Nat) : Int) := wrN (by omega) (by omega)
  have d1 : decide ((8 : Int) ≤ ((hi - lo : Nat) : Int)) = true := by simp; omega
  obtain ⟨m, em, m1, m2⟩ := aCl (n := hi - lo) (by omega) (by omega)
  have t4 : IntKind.i64.wrap (Int.tdiv ((hi - lo : Nat) : Int) 4) = (((hi - lo) / 4 : Nat) : Int) := by
    have : Int.tdiv ((hi - lo : Nat) : Int) 4 = (((hi - lo) / 4 : Nat) : Int) := by rw [Int.tdiv_eq_ediv_of_nonneg (by omega)]; omega
    rw [this]; exact wrN rfl (by omega)
  rw [e1, d1, cond_true, em]
  simp only [Option.bind_some]
  rw [aM (by decide), t4, wrN (x := (((hi - lo) / 4 : Nat) : Int) * 2) (n := (hi - lo) / 4 * 2) (by omega) (by omega), wrN (x := (lo : Int) + (((hi - lo) / 4 * 2 : Nat) : Int)) (n := lo + (hi - lo) / 4 * 2) (by omega) (by omega), wrN (x := ((lo + (hi - lo) / 4 * 2 : Nat) : Int) - 1) (n := lo + (hi - lo) / 4 * 2 - 1) (by omega) (by omega)]
  unfold jQ
  obtain ⟨d', e, r⟩ := aDD (lo := lo) (n := hi - lo) (m := m) ⟨m1, m2⟩ h8 (lo + (hi - lo) / 4 * 2 + 2 - (lo + (hi - lo) / 4 * 2 - 1)) (lo + (hi - lo) / 4 * 2 - 1) (IntKind.u64.wrap ((hi - lo : Nat) : Int)) d rfl (by omega) (by omega) (by omega) h2
  rw [e]
  have : lo + (hi - lo) = hi := by omega
  rw [this] at r
  exact ⟨d', rfl, r⟩

theorem aCb {a b : Nat} {d : List Int} (s : Int) (ha : a < d.length) (hb : b < d.length) : ∃ (p q : Nat) (s' : Int), gP d (a : Int) (b : Int) s = some (((p : Int), (q : Int)), s') ∧ ((p = a ∧ q = b) ∨ (p = b ∧ q = a)) := by
  unfold gP
  rw [aM (asN hb), aM (asN ha), sV]
  simp only [Option.bind_some]
  cases decide (d.getD (Int.toNat (b : Int)) default < d.getD (Int.toNat (a : Int)) default)
  · exact ⟨a, b, _, rfl, .inl ⟨rfl, rfl⟩⟩
  · exact ⟨b, a, _, rfl, .inr ⟨rfl, rfl⟩⟩

end Go.Abs
