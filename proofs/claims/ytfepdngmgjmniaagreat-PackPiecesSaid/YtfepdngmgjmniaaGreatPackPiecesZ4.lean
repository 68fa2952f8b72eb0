/- What the law PackPieces stands on: the framework, the given functions as plain functions, their walks, and the plain laws; part 4. -/
import Derived.Test.YtfepdngmgjmniaaGreatPackPiecesZ3
set_option linter.unusedSimpArgs false
set_option linter.unusedVariables false
namespace Go.Abs
open Go Go.RowKit Go.Proofs
theorem uY (cmp4_f : Nat) (cmp4_a cmp4_c : List V) (cmp4 : aB → aB → Option Int) (cmp4_h : ∀ a0 a1 r, cmp4 a0 a1 = some r → bY Tryz.prog cmp4_f (cmp4_a ++ [(aD a0), (aD a1)] ++ cmp4_c) (eI r)) (rec : (List aB) → Int → Int → Int → Option (List aB)) (ih : ∀ (lo0p : Nat) (aA : (List aB)) (a1 : Int) (m2 : Int) (b3 : Int) (r : List aB), rec aA a1 m2 b3 = some r → lP Tryz.prog 107 lo0p 2 (List.map aD aA) (List.map aD r) [(.msl 2 lo0p 0 (List.length aA)), (eI a1), (eI m2), (eI b3), (.fn (.func cmp4_f) cmp4_a cmp4_c)] (.tup [])) (lo0p : Nat) (aA : (List aB)) (a1 : Int) (m2 : Int) (b3 : Int) (r : List aB) (h0 : eA cmp4 rec aA a1 m2 b3 = some r) : lP Tryz.prog 107 lo0p 2 (List.map aD aA) (List.map aD r) [(.msl 2 lo0p 0 (List.length aA)), (eI a1), (eI m2), (eI b3), (.fn (.func cmp4_f) cmp4_a cmp4_c)] (.tup []) := by
  intro H0 hl0
  refine cG Tryz.func107 ?_
  have hO := aM.rM hl0
  clear hl0
  obtain ⟨N0, hN0⟩ : ∃ n, n = List.length aA := ⟨_, rfl⟩
  have hN : List.length aA = N0 := hN0.symm
  unfold eA at h0
  refine cR (fun T H => ∃ aA : List aB, Has T [(0, (.msl 2 lo0p 0 (List.length aA))), (1, (eI a1)), (2, (eI m2)), (3, (eI b3)), (4, (.fn (.func cmp4_f) cmp4_a cmp4_c))] ∧ aM ⟨H0, [lo0p], []⟩ H [(lo0p, 2, List.map aD aA)] ∧ List.length aA = N0 ∧ lE cmp4 rec aA a1 m2 b3 = some r) ?_ ?_
  · clear hO hN h0
    rintro T H ⟨aA, hT, hO, hN, h0⟩
    refine bB hT ?_
    clear hT
    unfold lE at h0
    refine cR (fun T H => ∃ aA : List aB, Has T [(0, (.msl 2 lo0p 0 (List.length aA))), (1, (eI a1)), (2, (eI m2)), (3, (eI b3)), (4, (.fn (.func cmp4_f) cmp4_a cmp4_c))] ∧ aM ⟨H0, [lo0p], []⟩ H [(lo0p, 2, List.map aD aA)] ∧ List.length aA = N0 ∧ lA cmp4 rec aA a1 m2 b3 = some r) ?_ ?_
    · clear hO hN h0
      rintro T H ⟨aA, hT, hO, hN, h0⟩
      refine bB hT ?_
      clear hT
      unfold lA at h0
      refine aP ?_
      refine aU aG 7 ?_
      obtain ⟨c1, h0⟩ := bH h0
      refine tJ [0 ≤ (1 : Int)] ⟨c1, trivial⟩ ?_
      refine bV [] [(18, (eI (wR (Int.fdiv (IntKind.u64.wrap (wR (a1 + b3))) (2 ^ (min (Int.toNat (1 : Int)) 64))))))] ?_
      refine aZ aG 4 [] [(19, (eI (wR ((wR (Int.fdiv (IntKind.u64.wrap (wR (a1 + b3))) (2 ^ (min (Int.toNat (1 : Int)) 64)))) + m2))))] ?_
      refine aZ aG 2 [] [] ?_
      refine cR (fun T H => ∃ aA : List aB, ∃ bW : Int, ∃ n19 : Int, ∃ aY : Int, ∃ r21 : Int, Has T [(0, (.msl 2 lo0p 0 (List.length aA))), (1, (eI a1)), (2, (eI m2)), (3, (eI b3)), (4, (.fn (.func cmp4_f) cmp4_a cmp4_c)), (18, (eI bW)), (19, (eI n19)), (20, (eI aY)), (21, (eI r21))] ∧ aM ⟨H0, [lo0p], []⟩ H [(lo0p, 2, List.map aD aA)] ∧ List.length aA = N0 ∧ gW cmp4 rec aA a1 m2 b3 bW n19 aY r21 = some r) ?_ ?_
      · clear hO hN h0
        rintro T H ⟨aA, bW, n19, aY, r21, hT, hO, hN, h0⟩
        refine bB hT ?_
        clear hT
        unfold gW at h0
        refine aZ aG 3 [] [(22, (eI (wR (n19 - (1 : Int)))))] ?_
        refine cR (fun T H => ∃ aA : List aB, ∃ aY : Int, Has T [(0, (.msl 2 lo0p 0 (List.length aA))), (1, (eI a1)), (2, (eI m2)), (3, (eI b3)), (4, (.fn (.func cmp4_f) cmp4_a cmp4_c)), (18, (eI bW)), (19, (eI n19)), (20, (eI aY))] ∧ aM ⟨H0, [lo0p], []⟩ H [(lo0p, 2, List.map aD aA)] ∧ List.length aA = N0 ∧ gM cmp4 rec aA a1 m2 b3 bW n19 aY = some r) ?_ ?_
        · clear hO hN h0
          rintro T H ⟨aA, aY, hT, hO, hN, h0⟩
          refine bB hT ?_
          clear hT
          unfold gM at h0
          refine aZ aG 4 [19] [(24, (eI (wR (n19 - aY))))] ?_
          refine cR (fun T H => ∃ aA : List aB, ∃ eC : Int, Has T [(0, (.msl 2 lo0p 0 (List.length aA))), (1, (eI a1)), (3, (eI b3)), (4, (.fn (.func cmp4_f) cmp4_a cmp4_c)), (18, (eI bW)), (20, (eI aY)), (24, (eI eC))] ∧ aM ⟨H0, [lo0p], []⟩ H [(lo0p, 2, List.map aD aA)] ∧ List.length aA = N0 ∧ gN cmp4 rec aA a1 b3 bW aY eC = some r) ?_ ?_
          · clear hO hN h0
            rintro T H ⟨aA, eC, hT, hO, hN, h0⟩
            refine bB hT ?_
            clear hT
            unfold gN at h0
            refine cR (fun T H => ∃ aA : List aB, Has T [(0, (.msl 2 lo0p 0 (List.length aA))), (3, (eI b3)), (4, (.fn (.func cmp4_f) cmp4_a cmp4_c)), (18, (eI bW)), (24, (eI eC))] ∧ aM ⟨H0, [lo0p], []⟩ H [(lo0p, 2, List.map aD aA)] ∧ List.length aA = N0 ∧ gP cmp4 rec aA b3 bW eC = some r) ?_ ?_
            · clear hO hN h0
              rintro T H ⟨aA, hT, hO, hN, h0⟩
              refine bB hT ?_
              clear hT
              unfold gP at h0
              refine aZ aG 8 [] [(213, (aK ((decide (bW < eC)) && (decide (eC < b3)))))] ?_
              refine bJ h0 (fun h0 => ?_) (fun h0 => ?_)
              · refine aU aG 6 ?_
                refine bS 5 ?_
                obtain ⟨x3, hx4, h0⟩ := aX h0
                refine pI [(lo0p, 2, List.map aD x3)] 0 (ih lo0p aA bW eC b3 _ hx4) hO ?_
                intro H hO hl5
                simp only [List.length_map] at hl5
                replace hN := hl5.trans hN
                refine cQ ?_
                refine cP (l := [(0, (.msl 2 lo0p 0 (List.length x3)))]) ⟨[(0, (.msl 2 lo0p 0 (List.length aA)))], by kernel_rfl, rfl, ⟨aV.eq (by simp [hl5]), trivial⟩⟩ ?_
                obtain rfl := oI h0
                exact aJ (sC (x := (.tup [])) (by kernel_rfl) (aV.refl _) ⟨rfl, hO.ext, hO.at 0 (by kernel_rfl), by simp only [List.length_map]; exact hN.trans hN0⟩)
              refine bL ?_
              obtain rfl := oI h0
              exact aJ (sC (x := (.tup [])) (by kernel_rfl) (aV.refl _) ⟨rfl, hO.ext, hO.at 0 (by kernel_rfl), by simp only [List.length_map]; exact hN.trans hN0⟩)
            refine aZ aG 8 [] [(199, (aK ((decide (a1 < aY)) && (decide (aY < bW)))))] ?_
            refine bJ h0 (fun h0 => ?_) (fun h0 => ?_)
            · refine aU aG 6 ?_
              refine bS 5 ?_
              obtain ⟨x7, hx8, h0⟩ := aX h0
              refine pI [(lo0p, 2, List.map aD x7)] 0 (ih lo0p aA a1 aY bW _ hx8) hO ?_
              intro H hO hl9
              simp only [List.length_map] at hl9
              replace hN := hl9.trans hN
              refine cQ ?_
              refine cP (l := [(0, (.msl 2 lo0p 0 (List.length x7))), (3, (eI b3)), (4, (.fn (.func cmp4_f) cmp4_a cmp4_c)), (18, (eI bW)), (24, (eI eC))]) ⟨[(0, (.msl 2 lo0p 0 (List.length aA))), (3, (eI b3)), (4, (.fn (.func cmp4_f) cmp4_a cmp4_c)), (18, (eI bW)), (24, (eI eC))], by kernel_rfl, rfl, ⟨aV.eq (by simp [hl9]), aV.refl _, aV.refl _, aV.refl _, aV.refl _, trivial⟩⟩ ?_
              exact aJ (aI (⟨rfl, _, .eq (by kernel_rfl), hO, hN, h0⟩))
            refine bL ?_
            exact aJ (aI (⟨rfl, _, .eq (by kernel_rfl), hO, hN, h0⟩))
          refine aZ aG 8 [] [(185, (aK ((decide (aY < m2)) && (decide (m2 < (wR (n19 - aY)))))))] ?_
          refine bJ h0 (fun h0 => ?_) (fun h0 => ?_)
          · refine aU aG 6 ?_
            refine bS 5 ?_
            obtain ⟨x11, hx12, h0⟩ := aX h0
            refine pI [(lo0p, 2, List.map aD x11)] 0 (AD lo0p aA aY m2 (wR (n19 - aY)) cmp4_f cmp4_a cmp4_c cmp4 cmp4_h _ hx12) hO ?_
            intro H hO hl13
            simp only [List.length_map] at hl13
            replace hN := hl13.trans hN
            refine cQ ?_
            refine cP (l := [(0, (.msl 2 lo0p 0 (List.length x11))), (1, (eI a1)), (3, (eI b3)), (4, (.fn (.func cmp4_f) cmp4_a cmp4_c)), (18, (eI bW)), (20, (eI aY)), (24, (eI (wR (n19 - aY))))]) ⟨[(0, (.msl 2 lo0p 0 (List.length aA))), (1, (eI a1)), (3, (eI b3)), (4, (.fn (.func cmp4_f) cmp4_a cmp4_c)), (18, (eI bW)), (20, (eI aY)), (24, (eI (wR (n19 - aY))))], by kernel_rfl, rfl, ⟨aV.eq (by simp [hl13]), aV.refl _, aV.refl _, aV.refl _, aV.refl _, aV.refl _, aV.refl _, trivial⟩⟩ ?_
            exact aJ (aI (⟨rfl, _, _, .eq (by kernel_rfl), hO, hN, h0⟩))
          refine bL ?_
          exact aJ (aI (⟨rfl, _, _, .eq (by kernel_rfl), hO, hN, h0⟩))
        refine bT 8 ?_
        refine cT [(0, (.msl 2 lo0p 0 (List.length aA))), (1, (eI a1)), (2, (eI m2)), (3, (eI b3)), (4, (.fn (.func cmp4_f) cmp4_a cmp4_c)), (18, (eI bW)), (19, (eI n19)), (20, (eI aY)), (21, (eI r21)), (22, (eI (wR (n19 - (1 : Int)))))] ?_
        refine cH (fun T H => ∃ aA : List aB, ∃ aY : Int, ∃ r21 : Int, ∃ p22 : Int, Has T [(0, (.msl 2 lo0p 0 (List.length aA))), (1, (eI a1)), (2, (eI m2)), (3, (eI b3)), (4, (.fn (.func cmp4_f) cmp4_a cmp4_c)), (18, (eI bW)), (19, (eI n19)), (20, (eI aY)), (21, (eI r21)), (22, (eI p22))] ∧ aM ⟨H0, [lo0p], []⟩ H [(lo0p, 2, List.map aD aA)] ∧ List.length aA = N0 ∧ lC cmp4 rec aA a1 m2 b3 bW n19 aY r21 p22 = some r) ?_ ⟨aA, aY, r21, wR (n19 - (1 : Int)), .eq (by kernel_rfl), hO, hN, h0⟩
        clear hO hN h0
        rintro T H ⟨aA, aY, r21, p22, hT, hO, hN, h0⟩
        refine bB hT ?_
        clear hT
        unfold lC at h0
        obtain ⟨rr0, hl0, h0⟩ := aX h0
        refine bZ (by kernel_rfl) (fun (s : List aB × Int × Int) T H => Has T [(0, (.msl 2 lo0p 0 (List.length s.1))), (1, (eI a1)), (2, (eI m2)), (3, (eI b3)), (4, (.fn (.func cmp4_f) cmp4_a cmp4_c)), (18, (eI bW)), (19, (eI n19)), (20, (eI s.2.1)), (21, (eI s.2.2)), (22, (eI p22))] ∧ aM ⟨H0, [lo0p], []⟩ H [(lo0p, 2, List.map aD s.1)] ∧ List.length s.1 = N0) hl0 ⟨.eq (by kernel_rfl), hO, hN⟩ ?_
        clear hO hN
        rintro k0 s out1 T H ⟨hT, hO, hN⟩ h1 ho0
        obtain ⟨aA, aY, r21⟩ := s
        replace h1 : lI cmp4 rec a1 m2 b3 bW n19 p22 aA aY r21 = some out1 := h1
        try dsimp only at hT
        refine bB hT ?_
        clear hT
        unfold lI at h1
        refine aP ?_
        refine aZ aG 3 [] [(151, (aK (decide (aY < r21))))] ?_
        refine bJ h1 (fun h1 => ?_) (fun h1 => ?_)
        · refine bL ?_
          refine bG [(0, (.msl 2 lo0p 0 (List.length aA))), (1, (eI a1)), (2, (eI m2)), (3, (eI b3)), (4, (.fn (.func cmp4_f) cmp4_a cmp4_c)), (18, (eI bW)), (19, (eI n19)), (20, (eI aY)), (21, (eI r21)), (22, (eI p22))] ?_
          refine bT 9 ?_
          refine aP ?_
          refine aU aG 7 ?_
          obtain ⟨c15, h1⟩ := bH h1
          refine tJ [0 ≤ (1 : Int)] ⟨c15, trivial⟩ ?_
          refine bV [] [(23, (eI (wR (Int.fdiv (IntKind.u64.wrap (wR (aY + r21))) (2 ^ (min (Int.toNat (1 : Int)) 64))))))] ?_
          refine aP ?_
          refine fQ (fP [169]) aG 14 ?_
          obtain ⟨c16, h1⟩ := bH h1
          refine cZ 6 [0 ≤ (wR (p22 - (wR (Int.fdiv (IntKind.u64.wrap (wR (aY + r21))) (2 ^ (min (Int.toNat (1 : Int)) 64)))))) ∧ (wR (p22 - (wR (Int.fdiv (IntKind.u64.wrap (wR (aY + r21))) (2 ^ (min (Int.toNat (1 : Int)) 64)))))) < (lN aA)] ⟨c16, trivial⟩ ?_
          refine kX 0 lo0p 2 (0 + Int.toNat (wR (p22 - (wR (Int.fdiv (IntKind.u64.wrap (wR (aY + r21))) (2 ^ (min (Int.toNat (1 : Int)) 64))))))) (aD (gD aA (wR (p22 - (wR (Int.fdiv (IntKind.u64.wrap (wR (aY + r21))) (2 ^ (min (Int.toNat (1 : Int)) 64)))))))) (aD (gD aA (wR (p22 - (wR (Int.fdiv (IntKind.u64.wrap (wR (aY + r21))) (2 ^ (min (Int.toNat (1 : Int)) 64)))))))) (List.map aD aA) hO (cU c16) ?_
          obtain ⟨c17, h1⟩ := bH h1
          refine cZ 10 [0 ≤ (wR (Int.fdiv (IntKind.u64.wrap (wR (aY + r21))) (2 ^ (min (Int.toNat (1 : Int)) 64)))) ∧ (wR (Int.fdiv (IntKind.u64.wrap (wR (aY + r21))) (2 ^ (min (Int.toNat (1 : Int)) 64)))) < (lN aA)] ⟨c17, trivial⟩ ?_
          refine kX 0 lo0p 2 (0 + Int.toNat (wR (Int.fdiv (IntKind.u64.wrap (wR (aY + r21))) (2 ^ (min (Int.toNat (1 : Int)) 64))))) (aD (gD aA (wR (Int.fdiv (IntKind.u64.wrap (wR (aY + r21))) (2 ^ (min (Int.toNat (1 : Int)) 64)))))) (aD (gD aA (wR (Int.fdiv (IntKind.u64.wrap (wR (aY + r21))) (2 ^ (min (Int.toNat (1 : Int)) 64)))))) (List.map aD aA) hO (cU c17) ?_
          obtain ⟨x18, hx19, h1⟩ := aX h1
          refine zK (cmp4_h (gD aA (wR (p22 - (wR (Int.fdiv (IntKind.u64.wrap (wR (aY + r21))) (2 ^ (min (Int.toNat (1 : Int)) 64))))))) (gD aA (wR (Int.fdiv (IntKind.u64.wrap (wR (aY + r21))) (2 ^ (min (Int.toNat (1 : Int)) 64))))) _ hx19) hO ?_
          intro H hO
          refine jO ?_
          refine bV [] [(171, (aK (!(decide (x18 < (0 : Int))))))] ?_
          refine bJ h1 (fun h1 => ?_) (fun h1 => ?_)
          · refine aU aG 3 ?_
            refine bF ?_
            exact aJ (aW (aI (⟨rfl, _, (oI h1).symm, .eq (by kernel_rfl), hO, hN⟩)))
          refine aU aG 2 ?_
          refine bF ?_
          exact aJ (aW (aI (⟨rfl, _, (oI h1).symm, .eq (by kernel_rfl), hO, hN⟩)))
        refine cY 8 ?_
        obtain rfl := oI h1
        obtain rfl : _ = rr0 := ho0
        replace h0 : gM cmp4 rec aA a1 m2 b3 bW n19 aY = some r := h0
        exact aJ (aT (aT (bO (aI (⟨rfl, _, _, .eq (by kernel_rfl), hO, hN, h0⟩)))))
      refine aZ aG 3 [] [(140, (aK (decide ((wR (Int.fdiv (IntKind.u64.wrap (wR (a1 + b3))) (2 ^ (min (Int.toNat (1 : Int)) 64)))) < m2))))] ?_
      refine bJ h0 (fun h0 => ?_) (fun h0 => ?_)
      · refine bU aG 4 [(0, (.msl 2 lo0p 0 (List.length aA))), (1, (eI a1)), (2, (eI m2)), (3, (eI b3)), (4, (.fn (.func cmp4_f) cmp4_a cmp4_c)), (18, (eI (wR (Int.fdiv (IntKind.u64.wrap (wR (a1 + b3))) (2 ^ (min (Int.toNat (1 : Int)) 64)))))), (19, (eI (wR ((wR (Int.fdiv (IntKind.u64.wrap (wR (a1 + b3))) (2 ^ (min (Int.toNat (1 : Int)) 64)))) + m2)))), (20, (eI (wR ((wR ((wR (Int.fdiv (IntKind.u64.wrap (wR (a1 + b3))) (2 ^ (min (Int.toNat (1 : Int)) 64)))) + m2)) - b3))))] ?_
        refine aU aG 2 ?_
        refine bF ?_
        exact aJ (aI (⟨rfl, _, _, _, _, _, .eq (by kernel_rfl), hO, hN, h0⟩))
      refine bU aG 2 [(0, (.msl 2 lo0p 0 (List.length aA))), (1, (eI a1)), (2, (eI m2)), (3, (eI b3)), (4, (.fn (.func cmp4_f) cmp4_a cmp4_c)), (18, (eI (wR (Int.fdiv (IntKind.u64.wrap (wR (a1 + b3))) (2 ^ (min (Int.toNat (1 : Int)) 64)))))), (19, (eI (wR ((wR (Int.fdiv (IntKind.u64.wrap (wR (a1 + b3))) (2 ^ (min (Int.toNat (1 : Int)) 64)))) + m2)))), (20, (eI a1))] ?_
      refine aU aG 2 ?_
      refine bF ?_
      exact aJ (aI (⟨rfl, _, _, _, _, _, .eq (by kernel_rfl), hO, hN, h0⟩))
    refine aZ aG 4 [] [(80, (aK (decide ((wR (b3 - m2)) = (1 : Int)))))] ?_
    refine bJ h0 (fun h0 => ?_) (fun h0 => ?_)
    · refine aZ aG 2 [1, 3, 80] [(14, (eI a1))] ?_
      refine aZ aG 2 [] [(15, (eI m2))] ?_
      refine cR (fun T H => ∃ aA : List aB, ∃ i14 : Int, Has T [(0, (.msl 2 lo0p 0 (List.length aA))), (2, (eI m2)), (14, (eI i14))] ∧ aM ⟨H0, [lo0p], []⟩ H [(lo0p, 2, List.map aD aA)] ∧ List.length aA = N0 ∧ gT cmp4 rec aA m2 i14 = some r) ?_ ?_
      · clear hO hN h0
        rintro T H ⟨aA, i14, hT, hO, hN, h0⟩
        refine bB hT ?_
        clear hT
        unfold gT at h0
        refine cR (fun T H => ∃ aA : List aB, Has T [(0, (.msl 2 lo0p 0 (List.length aA)))] ∧ aM ⟨H0, [lo0p], []⟩ H [(lo0p, 2, List.map aD aA)] ∧ List.length aA = N0 ∧ gZ cmp4 rec aA = some r) ?_ ?_
        · clear hO hN h0
          rintro T H ⟨aA, hT, hO, hN, h0⟩
          refine bB hT ?_
          clear hT
          unfold gZ at h0
          refine bK ?_
          obtain rfl := oI h0
          exact aJ (aS (rK (x := (.tup [])) (by kernel_rfl) (aV.refl _) ⟨rfl, hO.ext, hO.at 0 (by kernel_rfl), by simp only [List.length_map]; exact hN.trans hN0⟩))
        refine aZ aG 2 [2] [(17, (eI m2))] ?_
        refine bT 6 ?_
        refine cT [(0, (.msl 2 lo0p 0 (List.length aA))), (14, (eI i14)), (17, (eI m2))] ?_
        refine cH (fun T H => ∃ aA : List aB, ∃ k17 : Int, Has T [(0, (.msl 2 lo0p 0 (List.length aA))), (14, (eI i14)), (17, (eI k17))] ∧ aM ⟨H0, [lo0p], []⟩ H [(lo0p, 2, List.map aD aA)] ∧ List.length aA = N0 ∧ kN cmp4 rec aA i14 k17 = some r) ?_ ⟨aA, m2, .eq (by kernel_rfl), hO, hN, h0⟩
        clear hO hN h0
        rintro T H ⟨aA, k17, hT, hO, hN, h0⟩
        refine bB hT ?_
        clear hT
        unfold kN at h0
        obtain ⟨rr0, hl0, h0⟩ := aX h0
        refine bZ (by kernel_rfl) (fun (s : List aB × Int) T H => Has T [(0, (.msl 2 lo0p 0 (List.length s.1))), (14, (eI i14)), (17, (eI s.2))] ∧ aM ⟨H0, [lo0p], []⟩ H [(lo0p, 2, List.map aD s.1)] ∧ List.length s.1 = N0) hl0 ⟨.eq (by kernel_rfl), hO, hN⟩ ?_
        clear hO hN
        rintro k0 s out1 T H ⟨hT, hO, hN⟩ h1 ho0
        obtain ⟨aA, k17⟩ := s
        replace h1 : kD cmp4 rec i14 aA k17 = some out1 := h1
        try dsimp only at hT
        refine bB hT ?_
        clear hT
        unfold kD at h1
        refine aP ?_
        refine aZ aG 3 [] [(110, (aK (decide (i14 < k17))))] ?_
        refine bJ h1 (fun h1 => ?_) (fun h1 => ?_)
        · refine bL ?_
          refine bG [(0, (.msl 2 lo0p 0 (List.length aA))), (14, (eI i14)), (17, (eI k17))] ?_
          refine aP ?_
          refine bT 7 ?_
          refine fQ (fP []) aG 18 ?_
          obtain ⟨c25, h1⟩ := bH h1
          refine cZ 9 [0 ≤ (wR (k17 - (1 : Int))) ∧ (wR (k17 - (1 : Int))) < (lN aA)] ⟨c25, trivial⟩ ?_
          refine kX 0 lo0p 2 (0 + Int.toNat (wR (k17 - (1 : Int)))) (aD (gD aA (wR (k17 - (1 : Int))))) (aD (gD aA (wR (k17 - (1 : Int))))) (List.map aD aA) hO (cU c25) ?_
          obtain ⟨c26, h1⟩ := bH h1
          refine cZ 13 [0 ≤ k17 ∧ k17 < (lN aA)] ⟨c26, trivial⟩ ?_
          refine kX 0 lo0p 2 (0 + Int.toNat k17) (aD (gD aA k17)) (aD (gD aA k17)) (List.map aD aA) hO (cU c26) ?_
          obtain ⟨c27, h1⟩ := bH h1
          refine cZ 15 [0 ≤ k17 ∧ k17 < (lN aA)] ⟨c27, trivial⟩ ?_
          refine tD 0 lo0p 2 (0 + Int.toNat k17) (aD (gD aA k17)) (aD (gD aA (wR (k17 - (1 : Int))))) (List.map aD aA) [(lo0p, 2, List.map aD (List.set aA (Int.toNat k17) (gD aA (wR (k17 - (1 : Int))))))] hO (cU c27) (by simp only [List.set, oP]) ?_
          intro H hO
          replace hN : List.length (List.set aA (Int.toNat k17) (gD aA (wR (k17 - (1 : Int))))) = N0 := by simpa using hN
          obtain ⟨c28, h1⟩ := bH h1
          refine cZ 17 [0 ≤ (wR (k17 - (1 : Int))) ∧ (wR (k17 - (1 : Int))) < (lN aA)] ⟨c28, trivial⟩ ?_
          refine tD 0 lo0p 2 (0 + Int.toNat (wR (k17 - (1 : Int)))) (aD (gD (List.set aA (Int.toNat k17) (gD aA (wR (k17 - (1 : Int))))) (wR (k17 - (1 : Int))))) (aD (gD aA k17)) (List.map aD (List.set aA (Int.toNat k17) (gD aA (wR (k17 - (1 : Int)))))) [(lo0p, 2, List.map aD (List.set (List.set aA (Int.toNat k17) (gD aA (wR (k17 - (1 : Int))))) (Int.toNat (wR (k17 - (1 : Int)))) (gD aA k17)))] hO (zU c28 (by simp [])) (by simp only [List.set, oP]) ?_
          intro H hO
          replace hN : List.length (List.set (List.set aA (Int.toNat k17) (gD aA (wR (k17 - (1 : Int))))) (Int.toNat (wR (k17 - (1 : Int)))) (gD aA k17)) = N0 := by simpa using hN
          refine AO (by kernel_rfl) ?_
          refine cP (l := [(0, (.msl 2 lo0p 0 (List.length (List.set (List.set aA (Int.toNat k17) (gD aA (wR (k17 - (1 : Int))))) (Int.toNat (wR (k17 - (1 : Int)))) (gD aA k17))))), (14, (eI i14)), (17, (eI k17))]) ⟨[(0, (.msl 2 lo0p 0 (List.length aA))), (14, (eI i14)), (17, (eI k17))], by kernel_rfl, rfl, ⟨aV.eq (by simp []), aV.refl _, aV.refl _, trivial⟩⟩ ?_
          refine aJ (aW (aI (?_)))
          refine aU aG 3 ?_
          refine bF ?_
          exact aJ (aI (⟨rfl, _, (oI h1).symm, .eq (by kernel_rfl), hO, hN⟩))
        refine cY 6 ?_
        obtain rfl := oI h1
        obtain rfl : _ = rr0 := ho0
        replace h0 : gZ cmp4 rec aA = some r := h0
        exact aJ (aT (aT (bO (aI (⟨rfl, _, .eq (by kernel_rfl), hO, hN, h0⟩)))))
      refine bT 4 ?_
      refine cT [(0, (.msl 2 lo0p 0 (List.length aA))), (2, (eI m2)), (4, (.fn (.func cmp4_f) cmp4_a cmp4_c)), (14, (eI a1)), (15, (eI m2))] ?_
      refine cH (fun T H => ∃ aA : List aB, ∃ i14 : Int, ∃ j15 : Int, Has T [(0, (.msl 2 lo0p 0 (List.length aA))), (2, (eI m2)), (4, (.fn (.func cmp4_f) cmp4_a cmp4_c)), (14, (eI i14)), (15, (eI j15))] ∧ aM ⟨H0, [lo0p], []⟩ H [(lo0p, 2, List.map aD aA)] ∧ List.length aA = N0 ∧ kQ cmp4 rec aA m2 i14 j15 = some r) ?_ ⟨aA, a1, m2, .eq (by kernel_rfl), hO, hN, h0⟩
      clear hO hN h0
      rintro T H ⟨aA, i14, j15, hT, hO, hN, h0⟩
      refine bB hT ?_
      clear hT
      unfold kQ at h0
      obtain ⟨rr0, hl0, h0⟩ := aX h0
      refine bZ (by kernel_rfl) (fun (s : List aB × Int × Int) T H => Has T [(0, (.msl 2 lo0p 0 (List.length s.1))), (2, (eI m2)), (4, (.fn (.func cmp4_f) cmp4_a cmp4_c)), (14, (eI s.2.1)), (15, (eI s.2.2))] ∧ aM ⟨H0, [lo0p], []⟩ H [(lo0p, 2, List.map aD s.1)] ∧ List.length s.1 = N0) hl0 ⟨.eq (by kernel_rfl), hO, hN⟩ ?_
      clear hO hN
      rintro k0 s out1 T H ⟨hT, hO, hN⟩ h1 ho0
      obtain ⟨aA, i14, j15⟩ := s
      replace h1 : kF cmp4 rec m2 aA i14 j15 = some out1 := h1
      try dsimp only at hT
      refine bB hT ?_
      clear hT
      unfold kF at h1
      refine aP ?_
      refine aZ aG 3 [] [(85, (aK (decide (i14 < j15))))] ?_
      refine bJ h1 (fun h1 => ?_) (fun h1 => ?_)
      · refine bL ?_
        refine bG [(0, (.msl 2 lo0p 0 (List.length aA))), (2, (eI m2)), (4, (.fn (.func cmp4_f) cmp4_a cmp4_c)), (14, (eI i14)), (15, (eI j15))] ?_
        refine bT 5 ?_
        refine aP ?_
        refine aU aG 7 ?_
        obtain ⟨c30, h1⟩ := bH h1
        refine tJ [0 ≤ (1 : Int)] ⟨c30, trivial⟩ ?_
        refine bV [] [(16, (eI (wR (Int.fdiv (IntKind.u64.wrap (wR (i14 + j15))) (2 ^ (min (Int.toNat (1 : Int)) 64))))))] ?_
        refine aP ?_
        refine fQ (fP [101]) aG 12 ?_
        obtain ⟨c31, h1⟩ := bH h1
        refine cZ 4 [0 ≤ m2 ∧ m2 < (lN aA)] ⟨c31, trivial⟩ ?_
        refine kX 0 lo0p 2 (0 + Int.toNat m2) (aD (gD aA m2)) (aD (gD aA m2)) (List.map aD aA) hO (cU c31) ?_
        obtain ⟨c32, h1⟩ := bH h1
        refine cZ 8 [0 ≤ (wR (Int.fdiv (IntKind.u64.wrap (wR (i14 + j15))) (2 ^ (min (Int.toNat (1 : Int)) 64)))) ∧ (wR (Int.fdiv (IntKind.u64.wrap (wR (i14 + j15))) (2 ^ (min (Int.toNat (1 : Int)) 64)))) < (lN aA)] ⟨c32, trivial⟩ ?_
        refine kX 0 lo0p 2 (0 + Int.toNat (wR (Int.fdiv (IntKind.u64.wrap (wR (i14 + j15))) (2 ^ (min (Int.toNat (1 : Int)) 64))))) (aD (gD aA (wR (Int.fdiv (IntKind.u64.wrap (wR (i14 + j15))) (2 ^ (min (Int.toNat (1 : Int)) 64)))))) (aD (gD aA (wR (Int.fdiv (IntKind.u64.wrap (wR (i14 + j15))) (2 ^ (min (Int.toNat (1 : Int)) 64)))))) (List.map aD aA) hO (cU c32) ?_
        obtain ⟨x33, hx34, h1⟩ := aX h1
        refine zK (cmp4_h (gD aA m2) (gD aA (wR (Int.fdiv (IntKind.u64.wrap (wR (i14 + j15))) (2 ^ (min (Int.toNat (1 : Int)) 64))))) _ hx34) hO ?_
        intro H hO
        refine jO ?_
        refine bV [] [(103, (aK (!(decide (x33 < (0 : Int))))))] ?_
        refine bJ h1 (fun h1 => ?_) (fun h1 => ?_)
        · refine aU aG 3 ?_
          refine bF ?_
          exact aJ (aW (aI (⟨rfl, _, (oI h1).symm, .eq (by kernel_rfl), hO, hN⟩)))
        refine aU aG 2 ?_
        refine bF ?_
        exact aJ (aW (aI (⟨rfl, _, (oI h1).symm, .eq (by kernel_rfl), hO, hN⟩)))
      refine cY 4 ?_
      obtain rfl := oI h1
      obtain rfl : _ = rr0 := ho0
      replace h0 : gT cmp4 rec aA m2 i14 = some r := h0
      exact aJ (aT (aT (bO (aI (⟨rfl, _, _, .eq (by kernel_rfl), hO, hN, h0⟩)))))
    refine bL ?_
    exact aJ (aI (⟨rfl, _, .eq (by kernel_rfl), hO, hN, h0⟩))
  refine aZ aG 4 [] [(28, (aK (decide ((wR (m2 - a1)) = (1 : Int)))))] ?_
  refine bJ h0 (fun h0 => ?_) (fun h0 => ?_)
  · refine aZ aG 2 [2, 28] [(10, (eI m2))] ?_
    refine aZ aG 2 [3] [(11, (eI b3))] ?_
    refine cR (fun T H => ∃ aA : List aB, ∃ i10 : Int, Has T [(0, (.msl 2 lo0p 0 (List.length aA))), (1, (eI a1)), (10, (eI i10))] ∧ aM ⟨H0, [lo0p], []⟩ H [(lo0p, 2, List.map aD aA)] ∧ List.length aA = N0 ∧ gG cmp4 rec aA a1 i10 = some r) ?_ ?_
    · clear hO hN h0
      rintro T H ⟨aA, i10, hT, hO, hN, h0⟩
      refine bB hT ?_
      clear hT
      unfold gG at h0
      refine cR (fun T H => ∃ aA : List aB, Has T [(0, (.msl 2 lo0p 0 (List.length aA)))] ∧ aM ⟨H0, [lo0p], []⟩ H [(lo0p, 2, List.map aD aA)] ∧ List.length aA = N0 ∧ gJ cmp4 rec aA = some r) ?_ ?_
      · clear hO hN h0
        rintro T H ⟨aA, hT, hO, hN, h0⟩
        refine bB hT ?_
        clear hT
        unfold gJ at h0
        refine bK ?_
        obtain rfl := oI h0
        exact aJ (aS (rK (x := (.tup [])) (by kernel_rfl) (aV.refl _) ⟨rfl, hO.ext, hO.at 0 (by kernel_rfl), by simp only [List.length_map]; exact hN.trans hN0⟩))
      refine aZ aG 2 [1] [(13, (eI a1))] ?_
      refine bT 2 ?_
      refine cT [(0, (.msl 2 lo0p 0 (List.length aA))), (10, (eI i10)), (13, (eI a1))] ?_
      refine cH (fun T H => ∃ aA : List aB, ∃ k13 : Int, Has T [(0, (.msl 2 lo0p 0 (List.length aA))), (10, (eI i10)), (13, (eI k13))] ∧ aM ⟨H0, [lo0p], []⟩ H [(lo0p, 2, List.map aD aA)] ∧ List.length aA = N0 ∧ jX cmp4 rec aA i10 k13 = some r) ?_ ⟨aA, a1, .eq (by kernel_rfl), hO, hN, h0⟩
      clear hO hN h0
      rintro T H ⟨aA, k13, hT, hO, hN, h0⟩
      refine bB hT ?_
      clear hT
      unfold jX at h0
      obtain ⟨rr0, hl0, h0⟩ := aX h0
      refine bZ (by kernel_rfl) (fun (s : List aB × Int) T H => Has T [(0, (.msl 2 lo0p 0 (List.length s.1))), (10, (eI i10)), (13, (eI s.2))] ∧ aM ⟨H0, [lo0p], []⟩ H [(lo0p, 2, List.map aD s.1)] ∧ List.length s.1 = N0) hl0 ⟨.eq (by kernel_rfl), hO, hN⟩ ?_
      clear hO hN
      rintro k0 s out1 T H ⟨hT, hO, hN⟩ h1 ho0
      obtain ⟨aA, k13⟩ := s
      replace h1 : kO cmp4 rec i10 aA k13 = some out1 := h1
      try dsimp only at hT
      refine bB hT ?_
      clear hT
      unfold kO at h1
      refine aP ?_
      refine aZ aG 4 [] [(58, (aK (decide (k13 < (wR (i10 - (1 : Int)))))))] ?_
      refine bJ h1 (fun h1 => ?_) (fun h1 => ?_)
      · refine bL ?_
        refine bG [(0, (.msl 2 lo0p 0 (List.length aA))), (10, (eI i10)), (13, (eI k13))] ?_
        refine aP ?_
        refine bT 3 ?_
        refine fQ (fP []) aG 18 ?_
        obtain ⟨c39, h1⟩ := bH h1
        refine cZ 9 [0 ≤ (wR (k13 + (1 : Int))) ∧ (wR (k13 + (1 : Int))) < (lN aA)] ⟨c39, trivial⟩ ?_
        refine kX 0 lo0p 2 (0 + Int.toNat (wR (k13 + (1 : Int)))) (aD (gD aA (wR (k13 + (1 : Int))))) (aD (gD aA (wR (k13 + (1 : Int))))) (List.map aD aA) hO (cU c39) ?_
        obtain ⟨c40, h1⟩ := bH h1
        refine cZ 13 [0 ≤ k13 ∧ k13 < (lN aA)] ⟨c40, trivial⟩ ?_
        refine kX 0 lo0p 2 (0 + Int.toNat k13) (aD (gD aA k13)) (aD (gD aA k13)) (List.map aD aA) hO (cU c40) ?_
        obtain ⟨c41, h1⟩ := bH h1
        refine cZ 15 [0 ≤ k13 ∧ k13 < (lN aA)] ⟨c41, trivial⟩ ?_
        refine tD 0 lo0p 2 (0 + Int.toNat k13) (aD (gD aA k13)) (aD (gD aA (wR (k13 + (1 : Int))))) (List.map aD aA) [(lo0p, 2, List.map aD (List.set aA (Int.toNat k13) (gD aA (wR (k13 + (1 : Int))))))] hO (cU c41) (by simp only [List.set, oP]) ?_
        intro H hO
        replace hN : List.length (List.set aA (Int.toNat k13) (gD aA (wR (k13 + (1 : Int))))) = N0 := by simpa using hN
        obtain ⟨c42, h1⟩ := bH h1
        refine cZ 17 [0 ≤ (wR (k13 + (1 : Int))) ∧ (wR (k13 + (1 : Int))) < (lN aA)] ⟨c42, trivial⟩ ?_
        refine tD 0 lo0p 2 (0 + Int.toNat (wR (k13 + (1 : Int)))) (aD (gD (List.set aA (Int.toNat k13) (gD aA (wR (k13 + (1 : Int))))) (wR (k13 + (1 : Int))))) (aD (gD aA k13)) (List.map aD (List.set aA (Int.toNat k13) (gD aA (wR (k13 + (1 : Int)))))) [(lo0p, 2, List.map aD (List.set (List.set aA (Int.toNat k13) (gD aA (wR (k13 + (1 : Int))))) (Int.toNat (wR (k13 + (1 : Int)))) (gD aA k13)))] hO (zU c42 (by simp [])) (by simp only [List.set, oP]) ?_
        intro H hO
        replace hN : List.length (List.set (List.set aA (Int.toNat k13) (gD aA (wR (k13 + (1 : Int))))) (Int.toNat (wR (k13 + (1 : Int)))) (gD aA k13)) = N0 := by simpa using hN
        refine AO (by kernel_rfl) ?_
        refine cP (l := [(0, (.msl 2 lo0p 0 (List.length (List.set (List.set aA (Int.toNat k13) (gD aA (wR (k13 + (1 : Int))))) (Int.toNat (wR (k13 + (1 : Int)))) (gD aA k13))))), (10, (eI i10)), (13, (eI k13))]) ⟨[(0, (.msl 2 lo0p 0 (List.length aA))), (10, (eI i10)), (13, (eI k13))], by kernel_rfl, rfl, ⟨aV.eq (by simp []), aV.refl _, aV.refl _, trivial⟩⟩ ?_
        refine aJ (aW (aI (?_)))
        refine aU aG 3 ?_
        refine bF ?_
        exact aJ (aI (⟨rfl, _, (oI h1).symm, .eq (by kernel_rfl), hO, hN⟩))
      refine cY 2 ?_
      obtain rfl := oI h1
      obtain rfl : _ = rr0 := ho0
      replace h0 : gJ cmp4 rec aA = some r := h0
      exact aJ (aT (aT (bO (aI (⟨rfl, _, .eq (by kernel_rfl), hO, hN, h0⟩)))))
    refine bT 0 ?_
    refine cT [(0, (.msl 2 lo0p 0 (List.length aA))), (1, (eI a1)), (4, (.fn (.func cmp4_f) cmp4_a cmp4_c)), (10, (eI m2)), (11, (eI b3))] ?_
    refine cH (fun T H => ∃ aA : List aB, ∃ i10 : Int, ∃ j11 : Int, Has T [(0, (.msl 2 lo0p 0 (List.length aA))), (1, (eI a1)), (4, (.fn (.func cmp4_f) cmp4_a cmp4_c)), (10, (eI i10)), (11, (eI j11))] ∧ aM ⟨H0, [lo0p], []⟩ H [(lo0p, 2, List.map aD aA)] ∧ List.length aA = N0 ∧ jY cmp4 rec aA a1 i10 j11 = some r) ?_ ⟨aA, m2, b3, .eq (by kernel_rfl), hO, hN, h0⟩
    clear hO hN h0
    rintro T H ⟨aA, i10, j11, hT, hO, hN, h0⟩
    refine bB hT ?_
    clear hT
    unfold jY at h0
    obtain ⟨rr0, hl0, h0⟩ := aX h0
    refine bZ (by kernel_rfl) (fun (s : List aB × Int × Int) T H => Has T [(0, (.msl 2 lo0p 0 (List.length s.1))), (1, (eI a1)), (4, (.fn (.func cmp4_f) cmp4_a cmp4_c)), (10, (eI s.2.1)), (11, (eI s.2.2))] ∧ aM ⟨H0, [lo0p], []⟩ H [(lo0p, 2, List.map aD s.1)] ∧ List.length s.1 = N0) hl0 ⟨.eq (by kernel_rfl), hO, hN⟩ ?_
    clear hO hN
    rintro k0 s out1 T H ⟨hT, hO, hN⟩ h1 ho0
    obtain ⟨aA, i10, j11⟩ := s
    replace h1 : jW cmp4 rec a1 aA i10 j11 = some out1 := h1
    try dsimp only at hT
    refine bB hT ?_
    clear hT
    unfold jW at h1
    refine aP ?_
    refine aZ aG 3 [] [(33, (aK (decide (i10 < j11))))] ?_
    refine bJ h1 (fun h1 => ?_) (fun h1 => ?_)
    · refine bL ?_
      refine bG [(0, (.msl 2 lo0p 0 (List.length aA))), (1, (eI a1)), (4, (.fn (.func cmp4_f) cmp4_a cmp4_c)), (10, (eI i10)), (11, (eI j11))] ?_
      refine bT 1 ?_
      refine aP ?_
      refine aU aG 7 ?_
      obtain ⟨c44, h1⟩ := bH h1
      refine tJ [0 ≤ (1 : Int)] ⟨c44, trivial⟩ ?_
      refine bV [] [(12, (eI (wR (Int.fdiv (IntKind.u64.wrap (wR (i10 + j11))) (2 ^ (min (Int.toNat (1 : Int)) 64))))))] ?_
      refine aP ?_
      refine fQ (fP [49]) aG 11 ?_
      obtain ⟨c45, h1⟩ := bH h1
      refine cZ 4 [0 ≤ (wR (Int.fdiv (IntKind.u64.wrap (wR (i10 + j11))) (2 ^ (min (Int.toNat (1 : Int)) 64)))) ∧ (wR (Int.fdiv (IntKind.u64.wrap (wR (i10 + j11))) (2 ^ (min (Int.toNat (1 : Int)) 64)))) < (lN aA)] ⟨c45, trivial⟩ ?_
      refine kX 0 lo0p 2 (0 + Int.toNat (wR (Int.fdiv (IntKind.u64.wrap (wR (i10 + j11))) (2 ^ (min (Int.toNat (1 : Int)) 64))))) (aD (gD aA (wR (Int.fdiv (IntKind.u64.wrap (wR (i10 + j11))) (2 ^ (min (Int.toNat (1 : Int)) 64)))))) (aD (gD aA (wR (Int.fdiv (IntKind.u64.wrap (wR (i10 + j11))) (2 ^ (min (Int.toNat (1 : Int)) 64)))))) (List.map aD aA) hO (cU c45) ?_
      obtain ⟨c46, h1⟩ := bH h1
      refine cZ 8 [0 ≤ a1 ∧ a1 < (lN aA)] ⟨c46, trivial⟩ ?_
      refine kX 0 lo0p 2 (0 + Int.toNat a1) (aD (gD aA a1)) (aD (gD aA a1)) (List.map aD aA) hO (cU c46) ?_
      obtain ⟨x47, hx48, h1⟩ := aX h1
      refine zK (cmp4_h (gD aA (wR (Int.fdiv (IntKind.u64.wrap (wR (i10 + j11))) (2 ^ (min (Int.toNat (1 : Int)) 64))))) (gD aA a1) _ hx48) hO ?_
      intro H hO
      refine jO ?_
      refine bV [] [(50, (aK (decide (x47 < (0 : Int)))))] ?_
      refine bJ h1 (fun h1 => ?_) (fun h1 => ?_)
      · refine aU aG 3 ?_
        refine bF ?_
        exact aJ (aW (aI (⟨rfl, _, (oI h1).symm, .eq (by kernel_rfl), hO, hN⟩)))
      refine aU aG 2 ?_
      refine bF ?_
      exact aJ (aW (aI (⟨rfl, _, (oI h1).symm, .eq (by kernel_rfl), hO, hN⟩)))
    refine cY 0 ?_
    obtain rfl := oI h1
    obtain rfl : _ = rr0 := ho0
    replace h0 : gG cmp4 rec aA a1 i10 = some r := h0
    exact aJ (aT (aT (bO (aI (⟨rfl, _, _, .eq (by kernel_rfl), hO, hN, h0⟩)))))
  refine bL ?_
  exact aJ (aI (⟨rfl, _, .eq (by kernel_rfl), hO, hN, h0⟩))

theorem oM (cmp4_f : Nat) (cmp4_a cmp4_c : List V) (cmp4 : aB → aB → Option Int) (cmp4_h : ∀ a0 a1 r, cmp4 a0 a1 = some r → bY Tryz.prog cmp4_f (cmp4_a ++ [(aD a0), (aD a1)] ++ cmp4_c) (eI r)) : ∀ (k : Nat) (lo0p : Nat) (aA : (List aB)) (a1 : Int) (m2 : Int) (b3 : Int) (r : List aB), gL cmp4 k aA a1 m2 b3 = some r → lP Tryz.prog 107 lo0p 2 (List.map aD aA) (List.map aD r) [(.msl 2 lo0p 0 (List.length aA)), (eI a1), (eI m2), (eI b3), (.fn (.func cmp4_f) cmp4_a cmp4_c)] (.tup [])
  | 0, _, _, _, _, _, _, h => by cases h
  | k + 1, lo0p, aA, a1, m2, b3, r, h => uY cmp4_f cmp4_a cmp4_c cmp4 cmp4_h _ (oM cmp4_f cmp4_a cmp4_c cmp4 cmp4_h k) lo0p aA a1 m2 b3 r h

theorem pN (lo0p : Nat) (aA : (List aB)) (a1 : Int) (m2 : Int) (b3 : Int) (cmp4_f : Nat) (cmp4_a cmp4_c : List V) (cmp4 : aB → aB → Option Int) (cmp4_h : ∀ a0 a1 r, cmp4 a0 a1 = some r → bY Tryz.prog cmp4_f (cmp4_a ++ [(aD a0), (aD a1)] ++ cmp4_c) (eI r)) (r : List aB) (h0 : eP aA a1 m2 b3 cmp4 = some r) : lP Tryz.prog 107 lo0p 2 (List.map aD aA) (List.map aD r) [(.msl 2 lo0p 0 (List.length aA)), (eI a1), (eI m2), (eI b3), (.fn (.func cmp4_f) cmp4_a cmp4_c)] (.tup []) := by
  obtain ⟨k, hk⟩ := JC h0
  exact oM cmp4_f cmp4_a cmp4_c cmp4 cmp4_h k lo0p aA a1 m2 b3 r hk

theorem AA (lo0p : Nat) (aA : (List aB)) (n1 : Int) (cmp2_f : Nat) (cmp2_a cmp2_c : List V) (cmp2 : aB → aB → Option Int) (cmp2_h : ∀ a0 a1 r, cmp2 a0 a1 = some r → bY Tryz.prog cmp2_f (cmp2_a ++ [(aD a0), (aD a1)] ++ cmp2_c) (eI r)) (r : List aB) (h0 : fH aA n1 cmp2 = some r) : lP Tryz.prog 102 lo0p 2 (List.map aD aA) (List.map aD r) [(.msl 2 lo0p 0 (List.length aA)), (eI n1), (.fn (.func cmp2_f) cmp2_a cmp2_c)] (.tup []) := by
  intro H0 hl0
  refine cG Tryz.func102 ?_
  have hO := aM.rM hl0
  clear hl0
  obtain ⟨N0, hN0⟩ : ∃ n, n = List.length aA := ⟨_, rfl⟩
  have hN : List.length aA = N0 := hN0.symm
  unfold fH at h0
  refine aZ aG 1 [] [(6, (eI (20 : Int)))] ?_
  refine aZ aG 3 [] [(7, (eI (0 : Int))), (8, (eI (20 : Int)))] ?_
  refine cR (fun T H => ∃ aA : List aB, ∃ aQ : Int, ∃ a7 : Int, Has T [(0, (.msl 2 lo0p 0 (List.length aA))), (1, (eI n1)), (2, (.fn (.func cmp2_f) cmp2_a cmp2_c)), (6, (eI aQ)), (7, (eI a7))] ∧ aM ⟨H0, [lo0p], []⟩ H [(lo0p, 2, List.map aD aA)] ∧ List.length aA = N0 ∧ eY cmp2 aA n1 aQ a7 = some r) ?_ ?_
  · clear hO hN h0
    rintro T H ⟨aA, aQ, a7, hT, hO, hN, h0⟩
    refine bB hT ?_
    clear hT
    unfold eY at h0
    refine aP ?_
    refine aU aG 5 ?_
    refine bS 4 ?_
    obtain ⟨x1, hx2, h0⟩ := aX h0
    refine pI [(lo0p, 2, List.map aD x1)] 0 (nQ lo0p aA a7 n1 cmp2_f cmp2_a cmp2_c cmp2 cmp2_h _ hx2) hO ?_
    intro H hO hl3
    simp only [List.length_map] at hl3
    replace hN := hl3.trans hN
    refine cQ ?_
    refine cP (l := [(0, (.msl 2 lo0p 0 (List.length x1))), (1, (eI n1)), (2, (.fn (.func cmp2_f) cmp2_a cmp2_c)), (6, (eI aQ))]) ⟨[(0, (.msl 2 lo0p 0 (List.length aA))), (1, (eI n1)), (2, (.fn (.func cmp2_f) cmp2_a cmp2_c)), (6, (eI aQ))], by kernel_rfl, rfl, ⟨aV.eq (by simp [hl3]), aV.refl _, aV.refl _, aV.refl _, trivial⟩⟩ ?_
    refine aJ (aI (?_))
    refine bT 2 ?_
    refine cT [(0, (.msl 2 lo0p 0 (List.length x1))), (1, (eI n1)), (2, (.fn (.func cmp2_f) cmp2_a cmp2_c)), (6, (eI aQ))] ?_
    refine cH (fun T H => ∃ aA : List aB, ∃ aQ : Int, Has T [(0, (.msl 2 lo0p 0 (List.length aA))), (1, (eI n1)), (2, (.fn (.func cmp2_f) cmp2_a cmp2_c)), (6, (eI aQ))] ∧ aM ⟨H0, [lo0p], []⟩ H [(lo0p, 2, List.map aD aA)] ∧ List.length aA = N0 ∧ iQ cmp2 aA n1 aQ = some r) ?_ ⟨x1, aQ, .eq (by kernel_rfl), hO, hN, h0⟩
    clear hO hN h0
    rintro T H ⟨aA, aQ, hT, hO, hN, h0⟩
    refine bB hT ?_
    clear hT
    unfold iQ at h0
    obtain ⟨rr0, hl0, h0⟩ := aX h0
    refine bZ (by kernel_rfl) (fun (s : List aB × Int) T H => Has T [(0, (.msl 2 lo0p 0 (List.length s.1))), (1, (eI n1)), (2, (.fn (.func cmp2_f) cmp2_a cmp2_c)), (6, (eI s.2))] ∧ aM ⟨H0, [lo0p], []⟩ H [(lo0p, 2, List.map aD s.1)] ∧ List.length s.1 = N0) hl0 ⟨.eq (by kernel_rfl), hO, hN⟩ ?_
    clear hO hN
    rintro k0 s out1 T H ⟨hT, hO, hN⟩ h1 ho0
    obtain ⟨aA, aQ⟩ := s
    replace h1 : iJ cmp2 n1 aA aQ = some out1 := h1
    try dsimp only at hT
    refine bB hT ?_
    clear hT
    unfold iJ at h1
    refine aP ?_
    refine aZ aG 3 [] [(30, (aK (decide (aQ < n1))))] ?_
    refine bJ h1 (fun h1 => ?_) (fun h1 => ?_)
    · refine bL ?_
      refine bG [(0, (.msl 2 lo0p 0 (List.length aA))), (1, (eI n1)), (2, (.fn (.func cmp2_f) cmp2_a cmp2_c)), (6, (eI aQ))] ?_
      refine bT 3 ?_
      refine aZ aG 4 [] [(7, (eI (0 : Int))), (8, (eI (wR ((2 : Int) * aQ))))] ?_
      refine cR (fun T H => ∃ aA : List aB, ∃ a7 : Int, Has T [(0, (.msl 2 lo0p 0 (List.length aA))), (1, (eI n1)), (2, (.fn (.func cmp2_f) cmp2_a cmp2_c)), (6, (eI aQ)), (7, (eI a7))] ∧ aM ⟨H0, [lo0p], []⟩ H [(lo0p, 2, List.map aD aA)] ∧ List.length aA = N0 ∧ fB cmp2 aA n1 aQ a7 = some out1) ?_ ?_
      · clear hO hN h1
        rintro T H ⟨aA, a7, hT, hO, hN, h1⟩
        refine bB hT ?_
        clear hT
        unfold fB at h1
        refine cR (fun T H => ∃ aA : List aB, Has T [(0, (.msl 2 lo0p 0 (List.length aA))), (1, (eI n1)), (2, (.fn (.func cmp2_f) cmp2_a cmp2_c)), (6, (eI aQ))] ∧ aM ⟨H0, [lo0p], []⟩ H [(lo0p, 2, List.map aD aA)] ∧ List.length aA = N0 ∧ iI cmp2 aA n1 aQ = some out1) ?_ ?_
        · clear hO hN h1
          rintro T H ⟨aA, hT, hO, hN, h1⟩
          refine bB hT ?_
          clear hT
          unfold iI at h1
          refine aU aG 3 ?_
          refine bF ?_
          exact aJ (aW (aI (⟨rfl, _, (oI h1).symm, .eq (by kernel_rfl), hO, hN⟩)))
        refine aZ aG 4 [] [(9, (eI (wR (a7 + aQ))))] ?_
        refine aZ aG 3 [] [(54, (aK (decide ((wR (a7 + aQ)) < n1))))] ?_
        refine bJ h1 (fun h1 => ?_) (fun h1 => ?_)
        · refine aU aG 6 ?_
          refine bS 5 ?_
          obtain ⟨x6, hx7, h1⟩ := aX h1
          refine pI [(lo0p, 2, List.map aD x6)] 0 (pN lo0p aA a7 (wR (a7 + aQ)) n1 cmp2_f cmp2_a cmp2_c cmp2 cmp2_h _ hx7) hO ?_
          intro H hO hl8
          simp only [List.length_map] at hl8
          replace hN := hl8.trans hN
          refine cQ ?_
          refine cP (l := [(0, (.msl 2 lo0p 0 (List.length x6))), (1, (eI n1)), (2, (.fn (.func cmp2_f) cmp2_a cmp2_c)), (6, (eI aQ))]) ⟨[(0, (.msl 2 lo0p 0 (List.length aA))), (1, (eI n1)), (2, (.fn (.func cmp2_f) cmp2_a cmp2_c)), (6, (eI aQ))], by kernel_rfl, rfl, ⟨aV.eq (by simp [hl8]), aV.refl _, aV.refl _, aV.refl _, trivial⟩⟩ ?_
          exact aJ (aI (⟨rfl, _, .eq (by kernel_rfl), hO, hN, h1⟩))
        refine bL ?_
        exact aJ (aI (⟨rfl, _, .eq (by kernel_rfl), hO, hN, h1⟩))
      refine bT 4 ?_
      refine cT [(0, (.msl 2 lo0p 0 (List.length aA))), (1, (eI n1)), (2, (.fn (.func cmp2_f) cmp2_a cmp2_c)), (6, (eI aQ)), (7, (eI (0 : Int))), (8, (eI (wR ((2 : Int) * aQ))))] ?_
      refine cH (fun T H => ∃ aA : List aB, ∃ a7 : Int, ∃ b8 : Int, Has T [(0, (.msl 2 lo0p 0 (List.length aA))), (1, (eI n1)), (2, (.fn (.func cmp2_f) cmp2_a cmp2_c)), (6, (eI aQ)), (7, (eI a7)), (8, (eI b8))] ∧ aM ⟨H0, [lo0p], []⟩ H [(lo0p, 2, List.map aD aA)] ∧ List.length aA = N0 ∧ iS cmp2 aA n1 aQ a7 b8 = some out1) ?_ ⟨aA, (0 : Int), wR ((2 : Int) * aQ), .eq (by kernel_rfl), hO, hN, h1⟩
      clear hO hN h1
      rintro T H ⟨aA, a7, b8, hT, hO, hN, h1⟩
      refine bB hT ?_
      clear hT
      unfold iS at h1
      obtain ⟨rr1, hl1, h1⟩ := aX h1
      refine bZ (by kernel_rfl) (fun (s : List aB × Int × Int) T H => Has T [(0, (.msl 2 lo0p 0 (List.length s.1))), (1, (eI n1)), (2, (.fn (.func cmp2_f) cmp2_a cmp2_c)), (6, (eI aQ)), (7, (eI s.2.1)), (8, (eI s.2.2))] ∧ aM ⟨H0, [lo0p], []⟩ H [(lo0p, 2, List.map aD s.1)] ∧ List.length s.1 = N0) hl1 ⟨.eq (by kernel_rfl), hO, hN⟩ ?_
      clear hO hN
      rintro k1 s out2 T H ⟨hT, hO, hN⟩ h2 ho1
      obtain ⟨aA, a7, b8⟩ := s
      replace h2 : iX cmp2 n1 aQ aA a7 b8 = some out2 := h2
      try dsimp only at hT
      refine bB hT ?_
      clear hT
      unfold iX at h2
      refine aP ?_
      refine aZ aG 3 [] [(35, (aK (decide (b8 ≤ n1))))] ?_
      refine bJ h2 (fun h2 => ?_) (fun h2 => ?_)
      · refine bL ?_
        refine bG [(0, (.msl 2 lo0p 0 (List.length aA))), (1, (eI n1)), (2, (.fn (.func cmp2_f) cmp2_a cmp2_c)), (6, (eI aQ)), (7, (eI a7)), (8, (eI b8))] ?_
        refine bT 5 ?_
        refine aP ?_
        refine aU aG 8 ?_
        refine bS 7 ?_
        obtain ⟨x10, hx11, h2⟩ := aX h2
        refine pI [(lo0p, 2, List.map aD x10)] 0 (pN lo0p aA a7 (wR (a7 + aQ)) b8 cmp2_f cmp2_a cmp2_c cmp2 cmp2_h _ hx11) hO ?_
        intro H hO hl12
        simp only [List.length_map] at hl12
        replace hN := hl12.trans hN
        refine cQ ?_
        refine cP (l := [(0, (.msl 2 lo0p 0 (List.length x10))), (1, (eI n1)), (2, (.fn (.func cmp2_f) cmp2_a cmp2_c)), (6, (eI aQ)), (8, (eI b8))]) ⟨[(0, (.msl 2 lo0p 0 (List.length aA))), (1, (eI n1)), (2, (.fn (.func cmp2_f) cmp2_a cmp2_c)), (6, (eI aQ)), (8, (eI b8))], by kernel_rfl, rfl, ⟨aV.eq (by simp [hl12]), aV.refl _, aV.refl _, aV.refl _, aV.refl _, trivial⟩⟩ ?_
        refine aJ (aI (?_))
        refine aZ aG 2 [] [(7, (eI b8))] ?_
        refine aU aG 5 ?_
        refine bF ?_
        exact aJ (aW (aI (⟨rfl, _, (oI h2).symm, .eq (by kernel_rfl), hO, hN⟩)))
      refine cY 4 ?_
      obtain rfl := oI h2
      obtain rfl : _ = rr1 := ho1
      replace h1 : fB cmp2 aA n1 aQ a7 = some out1 := h1
      exact aJ (aT (aT (bO (aI (⟨rfl, _, _, .eq (by kernel_rfl), hO, hN, h1⟩)))))
    refine cY 2 ?_
    obtain rfl := oI h1
    obtain rfl : _ = rr0 := ho0
    replace h0 : some aA = some r := h0
    obtain rfl := oI h0
    exact aJ (aT (aT (bO (sC (x := (.tup [])) (by kernel_rfl) (aV.refl _) ⟨rfl, hO.ext, hO.at 0 (by kernel_rfl), by simp only [List.length_map]; exact hN.trans hN0⟩))))
  refine bT 0 ?_
  refine cT [(0, (.msl 2 lo0p 0 (List.length aA))), (1, (eI n1)), (2, (.fn (.func cmp2_f) cmp2_a cmp2_c)), (6, (eI (20 : Int))), (7, (eI (0 : Int))), (8, (eI (20 : Int)))] ?_
  refine cH (fun T H => ∃ aA : List aB, ∃ aQ : Int, ∃ a7 : Int, ∃ b8 : Int, Has T [(0, (.msl 2 lo0p 0 (List.length aA))), (1, (eI n1)), (2, (.fn (.func cmp2_f) cmp2_a cmp2_c)), (6, (eI aQ)), (7, (eI a7)), (8, (eI b8))] ∧ aM ⟨H0, [lo0p], []⟩ H [(lo0p, 2, List.map aD aA)] ∧ List.length aA = N0 ∧ iV cmp2 aA n1 aQ a7 b8 = some r) ?_ ⟨aA, (20 : Int), (0 : Int), (20 : Int), .eq (by kernel_rfl), hO, hN, h0⟩
  clear hO hN h0
  rintro T H ⟨aA, aQ, a7, b8, hT, hO, hN, h0⟩
  refine bB hT ?_
  clear hT
  unfold iV at h0
  obtain ⟨rr0, hl0, h0⟩ := aX h0
  refine bZ (by kernel_rfl) (fun (s : List aB × Int × Int) T H => Has T [(0, (.msl 2 lo0p 0 (List.length s.1))), (1, (eI n1)), (2, (.fn (.func cmp2_f) cmp2_a cmp2_c)), (6, (eI aQ)), (7, (eI s.2.1)), (8, (eI s.2.2))] ∧ aM ⟨H0, [lo0p], []⟩ H [(lo0p, 2, List.map aD s.1)] ∧ List.length s.1 = N0) hl0 ⟨.eq (by kernel_rfl), hO, hN⟩ ?_
  clear hO hN
  rintro k0 s out1 T H ⟨hT, hO, hN⟩ h1 ho0
  obtain ⟨aA, a7, b8⟩ := s
  replace h1 : iW cmp2 n1 aQ aA a7 b8 = some out1 := h1
  try dsimp only at hT
  refine bB hT ?_
  clear hT
  unfold iW at h1
  refine aP ?_
  refine aZ aG 3 [] [(13, (aK (decide (b8 ≤ n1))))] ?_
  refine bJ h1 (fun h1 => ?_) (fun h1 => ?_)
  · refine bL ?_
    refine bG [(0, (.msl 2 lo0p 0 (List.length aA))), (1, (eI n1)), (2, (.fn (.func cmp2_f) cmp2_a cmp2_c)), (6, (eI aQ)), (7, (eI a7)), (8, (eI b8))] ?_
    refine bT 1 ?_
    refine aP ?_
    refine aU aG 5 ?_
    refine bS 4 ?_
    obtain ⟨x14, hx15, h1⟩ := aX h1
    refine pI [(lo0p, 2, List.map aD x14)] 0 (nQ lo0p aA a7 b8 cmp2_f cmp2_a cmp2_c cmp2 cmp2_h _ hx15) hO ?_
    intro H hO hl16
    simp only [List.length_map] at hl16
    replace hN := hl16.trans hN
    refine cQ ?_
    refine cP (l := [(0, (.msl 2 lo0p 0 (List.length x14))), (1, (eI n1)), (2, (.fn (.func cmp2_f) cmp2_a cmp2_c)), (6, (eI aQ)), (8, (eI b8))]) ⟨[(0, (.msl 2 lo0p 0 (List.length aA))), (1, (eI n1)), (2, (.fn (.func cmp2_f) cmp2_a cmp2_c)), (6, (eI aQ)), (8, (eI b8))], by kernel_rfl, rfl, ⟨aV.eq (by simp [hl16]), aV.refl _, aV.refl _, aV.refl _, aV.refl _, trivial⟩⟩ ?_
    refine aJ (aI (?_))
    refine aZ aG 2 [] [(7, (eI b8))] ?_
    refine aU aG 4 ?_
    refine bF ?_
    exact aJ (aW (aI (⟨rfl, _, (oI h1).symm, .eq (by kernel_rfl), hO, hN⟩)))
  refine cY 0 ?_
  obtain rfl := oI h1
  obtain rfl : _ = rr0 := ho0
  replace h0 : eY cmp2 aA n1 aQ a7 = some r := h0
  exact aJ (aT (aT (bO (aI (⟨rfl, _, _, _, .eq (by kernel_rfl), hO, hN, h0⟩)))))

theorem tA (lo0p : Nat) (x0 : (List aB)) (cmp1_f : Nat) (cmp1_a cmp1_c : List V) (cmp1 : aB → aB → Option Int) (cmp1_h : ∀ a0 a1 r, cmp1 a0 a1 = some r → bY Tryz.prog cmp1_f (cmp1_a ++ [(aD a0), (aD a1)] ++ cmp1_c) (eI r)) (r : List aB) (h0 : dK x0 cmp1 = some r) : lP Tryz.prog 90 lo0p 2 (List.map aD x0) (List.map aD r) [(.msl 2 lo0p 0 (List.length x0)), (.fn (.func cmp1_f) cmp1_a cmp1_c)] (.tup []) := by
  intro H0 hl0
  refine cG Tryz.func90 ?_
  have hO := aM.rM hl0
  clear hl0
  obtain ⟨N0, hN0⟩ : ∃ n, n = List.length x0 := ⟨_, rfl⟩
  have hN : List.length x0 = N0 := hN0.symm
  unfold dK at h0
  refine aU aG 5 ?_
  refine bS 4 ?_
  obtain ⟨x1, hx2, h0⟩ := aX h0
  refine pI [(lo0p, 2, List.map aD x1)] 0 (AA lo0p x0 (lN x0) cmp1_f cmp1_a cmp1_c cmp1 cmp1_h _ hx2) hO ?_
  intro H hO hl3
  simp only [List.length_map] at hl3
  replace hN := hl3.trans hN
  refine cQ ?_
  refine cP (l := [(0, (.msl 2 lo0p 0 (List.length x1)))]) ⟨[(0, (.msl 2 lo0p 0 (List.length x0)))], by kernel_rfl, rfl, ⟨aV.eq (by simp [hl3]), trivial⟩⟩ ?_
  obtain rfl := oI h0
  exact aJ (sC (x := (.tup [])) (by kernel_rfl) (aV.refl _) ⟨rfl, hO.ext, hO.at 0 (by kernel_rfl), by simp only [List.length_map]; exact hN.trans hN0⟩)

theorem RN (a0 : aB) (b1 : aB) (r : Int) (h0 : nG a0 b1 = some r) : bY Tryz.prog 91 [(aD a0), (aD b1)] (eI r) := by
  intro H0
  refine cG Tryz.func91 ?_
  have hO := aM.start H0
  unfold nG at h0
  refine aP ?_
  refine aU aG 3 ?_
  refine fS 2 (aD a0) (by kernel_rfl) (by kernel_rfl) ?_
  refine fS 2 (aD b1) (by kernel_rfl) (by kernel_rfl) ?_
  refine bF ?_
  refine bG [(2, (.rp (aD a0))), (3, (.rp (aD b1)))] ?_
  refine aP ?_
  refine aU aG 6 ?_
  refine bS 4 ?_
  obtain ⟨x1, hx2, h0⟩ := aX h0
  refine cF (xM a0.At b1.At _ hx2) hO ?_
  intro H hO
  refine bF ?_
  refine bG [(4, (eI x1))] ?_
  refine bK ?_
  obtain rfl := oI h0
  exact aJ (Q_r hO)

theorem DL (f0 : (List aB)) (r : Bool) (h0 : pJ f0 = some r) : bY Tryz.prog 44 [(eL aD f0)] (aK r) := by
  intro H0
  refine cG Tryz.func44 ?_
  have hO := aM.start H0
  unfold pJ at h0
  refine aZ aG 1 [] [] ?_
  refine aP ?_
  refine aZ aG 3 [] [(8, (aK (decide ((1024 : Int) < (lN f0)))))] ?_
  refine bJ h0 (fun h0 => ?_) (fun h0 => ?_)
  · refine bU aG 1 [(2, (aK false))] ?_
    refine bK ?_
    obtain rfl := oI h0
    exact aJ (aS (Q_r hO))
  refine bL ?_
  refine bG [(0, (eL aD f0))] ?_
  refine aZ aG 1 [] [(3, (eI (-2 : Int)))] ?_
  refine cR (fun T H => Has T [] ∧ aM ⟨H0, [], []⟩ H [] ∧ yK  = some r) ?_ ?_
  · clear hO h0
    rintro T H ⟨hT, hO, h0⟩
    refine bB hT ?_
    clear hT
    unfold yK at h0
    refine bU aG 1 [(2, (aK true))] ?_
    refine bK ?_
    obtain rfl := oI h0
    exact aJ (Q_r hO)
  refine aZ aG 3 [0] [(9, (eL aD f0)), (10, (eI (lN f0))), (11, (eI (0 : Int)))] ?_
  refine bT 0 ?_
  refine cT [(3, (eI (-2 : Int))), (9, (eL aD f0)), (10, (eI (lN f0))), (11, (eI (0 : Int)))] ?_
  refine cH (fun T H => ∃ rY : Int, ∃ t9 : (List aB), ∃ t10 : Int, ∃ t11 : Int, Has T [(3, (eI rY)), (9, (eL aD t9)), (10, (eI t10)), (11, (eI t11))] ∧ aM ⟨H0, [], []⟩ H [] ∧ CC rY t9 t10 t11 = some r) ?_ ⟨(-2 : Int), f0, (lN f0), (0 : Int), .eq (by kernel_rfl), hO, h0⟩
  clear hO h0
  rintro T H ⟨rY, t9, t10, t11, hT, hO, h0⟩
  refine bB hT ?_
  clear hT
  unfold CC at h0
  obtain ⟨rr0, hl0, h0⟩ := aX h0
  refine bZ (by kernel_rfl) (fun (s : Int × Int) T H => Has T [(3, (eI s.1)), (9, (eL aD t9)), (10, (eI t10)), (11, (eI s.2))] ∧ aM ⟨H0, [], []⟩ H []) hl0 ⟨.eq (by kernel_rfl), hO⟩ ?_
  clear hO
  rintro k0 s out1 T H ⟨hT, hO⟩ h1 ho0
  obtain ⟨rY, t11⟩ := s
  replace h1 : mR t9 t10 rY t11 = some out1 := h1
  try dsimp only at hT
  refine bB hT ?_
  clear hT
  unfold mR at h1
  refine aZ aG 1 [] [(12, (aK (decide (t11 < t10))))] ?_
  refine aP ?_
  refine bJ h1 (fun h1 => ?_) (fun h1 => ?_)
  · refine bL ?_
    refine bG [(3, (eI rY)), (9, (eL aD t9)), (10, (eI t10)), (11, (eI t11))] ?_
    refine aP ?_
    refine bT 1 ?_
    refine aP ?_
    refine aU aG 4 ?_
    obtain ⟨c3, h1⟩ := bH h1
    refine mA 2 [0 ≤ t11 ∧ t11 < (lN t9)] ⟨c3, trivial⟩ ?_
    refine mV 2 (aD (aB.mk 0 0)) (by kernel_rfl) (by kernel_rfl) hO ?_
    intro lo4 H hO
    refine jP 0 lo4 2 0 (aD (aB.mk 0 0)) (aD (gD t9 t11)) [(aD (aB.mk 0 0))] [(lo4, 2, [(aD (gD t9 t11))])] hO rfl (by kernel_rfl) ?_
    intro H hO
    refine cQ ?_
    refine bV [] [(5, (.lp lo4 0 0))] ?_
    refine aP ?_
    refine aP ?_
    refine aU aG 20 ?_
    refine bS 1 ?_
    refine jZ 0 lo4 2 0 (aD (gD t9 t11)) (eI ((gD t9 t11).At)) [(aD (gD t9 t11))] hO rfl ?_
    refine bS 6 ?_
    refine BN [(19, false)] 0 lo4 2 0 (aD (gD t9 t11)) (eI ((gD t9 t11).At)) [(aD (gD t9 t11))] (by kernel_rfl) (by kernel_rfl) hO (by kernel_rfl) (!(decide (((gD t9 t11).At) ≤ rY))) (by kernel_rfl) (fun hb5 => rfl) ?_
    refine bS 11 ?_
    refine BN [(24, false)] 0 lo4 2 0 (aD (gD t9 t11)) (eI ((gD t9 t11).Net)) [(aD (gD t9 t11))] (by kernel_rfl) (by kernel_rfl) hO (by kernel_rfl) (!((decide (((gD t9 t11).At) ≤ rY)) || (decide ((1125899906842624 : Int) ≤ ((gD t9 t11).At))))) (by kernel_rfl) (fun hb6 => rfl) ?_
    refine bS 16 ?_
    refine BN [(29, false)] 0 lo4 2 0 (aD (gD t9 t11)) (eI ((gD t9 t11).Net)) [(aD (gD t9 t11))] (by kernel_rfl) (by kernel_rfl) hO (by kernel_rfl) (!(((decide (((gD t9 t11).At) ≤ rY)) || (decide ((1125899906842624 : Int) ≤ ((gD t9 t11).At)))) || (decide (((gD t9 t11).Net) = (0 : Int))))) (by kernel_rfl) (fun hb7 => rfl) ?_
    obtain ⟨x8, hx9, h1⟩ := aX h1
    refine gI [(29, false)] 74 [(eI ((gD t9 t11).Net))] (aK x8) (!(((decide (((gD t9 t11).At) ≤ rY)) || (decide ((1125899906842624 : Int) ≤ ((gD t9 t11).At)))) || (decide (((gD t9 t11).Net) = (0 : Int))))) (by kernel_rfl) (by kernel_rfl) (by kernel_rfl) (fun hb10 => (LF ((gD t9 t11).Net) _ (fW hx9 hb10))) hO ?_
    intro H hO
    refine bF ?_
    refine bV [3] [(34, (aK ((((decide (((gD t9 t11).At) ≤ rY)) || (decide ((1125899906842624 : Int) ≤ ((gD t9 t11).At)))) || (decide (((gD t9 t11).Net) = (0 : Int)))) || (!x8))))] ?_
    refine bJ h1 (fun h1 => ?_) (fun h1 => ?_)
    · refine aP ?_
      refine aU aG 1 ?_
      refine bF ?_
      refine cX [(2, (aK false))] ?_
      replace hO := hO.pick (L' := []) [] (by decide) (by kernel_rfl)
      refine aJ (aI (?_))
      refine bK ?_
      obtain rfl := oI h1
      obtain rfl : _ = rr0 := ho0
      replace h0 : some false = some r := h0
      obtain rfl := oI h0
      exact aJ (aS (bR (aS (aS (bR (aS (Q_r hO)))))))
    refine bL ?_
    refine bG [(5, (.lp lo4 0 0)), (9, (eL aD t9)), (10, (eI t10)), (11, (eI t11))] ?_
    refine aU aG 3 ?_
    refine bS 1 ?_
    refine jZ 0 lo4 2 0 (aD (gD t9 t11)) (eI ((gD t9 t11).At)) [(aD (gD t9 t11))] hO rfl ?_
    refine bF ?_
    refine cX [(3, (eI ((gD t9 t11).At))), (9, (eL aD t9)), (10, (eI t10)), (11, (eI t11))] ?_
    replace hO := hO.pick (L' := []) [] (by decide) (by kernel_rfl)
    refine aJ (aW (aI (?_)))
    refine aU aG 2 ?_
    refine bF ?_
    exact aJ (aI (⟨rfl, _, (oI h1).symm, .eq (by kernel_rfl), hO⟩))
  refine cY 0 ?_
  obtain rfl := oI h1
  obtain rfl : _ = rr0 := ho0
  replace h0 : yK  = some r := h0
  exact aJ (aT (aT (bO (aI (⟨rfl, .eq (by kernel_rfl), hO, h0⟩)))))

theorem WG (f0 : (List aB)) (r : ((List aB) × Int)) (h0 : uR f0 = some r) : bY Tryz.prog 92 [(eL aD f0)] (.tup [(eL aD r.1), (eI r.2)]) := by
  intro H0
  refine cG Tryz.func92 ?_
  have hO := aM.start H0
  unfold uR at h0
  refine aZ aG 2 [] [] ?_
  refine aP ?_
  refine aP ?_
  refine aU aG 3 ?_
  refine bS 1 ?_
  obtain ⟨x1, hx2, h0⟩ := aX h0
  refine cF (DL f0 _ hx2) hO ?_
  intro H hO
  refine bF ?_
  refine bV [] [(6, (aK (!x1)))] ?_
  refine bJ h0 (fun h0 => ?_) (fun h0 => ?_)
  · refine bU aG 2 [(2, (.sl true 0 (fun _ => .bad))), (3, (eI (7 : Int)))] ?_
    refine bK ?_
    refine cP (l := [(2, (eL aD ([]))), (3, (eI (7 : Int)))]) ⟨[(2, (.sl true 0 (fun _ => .bad))), (3, (eI (7 : Int)))], by kernel_rfl, rfl, ⟨eD, aV.refl _, trivial⟩⟩ ?_
    obtain rfl := oI h0
    exact aJ (aS (Q_r hO))
  refine bL ?_
  refine bG [(0, (eL aD f0))] ?_
  refine bU aG 3 [(2, (eL aD f0)), (3, (eI (0 : Int)))] ?_
  refine bK ?_
  obtain rfl := oI h0
  exact aJ (Q_r hO)

theorem WK (l0 : (List aB)) (r : ((List aB) × Int)) (h0 : xV l0 = some r) : bY Tryz.prog 65 [(eL aD l0)] (.tup [(eL aD r.1), (eI r.2)]) := by
  intro H0
  refine cG Tryz.func65 ?_
  have hO := aM.start H0
  unfold xV at h0
  refine aZ aG 2 [] [] ?_
  refine aP ?_
  refine aP ?_
  refine aU aG 2 ?_
  refine bS 1 ?_
  obtain ⟨x1, hx2, h0⟩ := aX h0
  refine cF (nL l0 87 [] [] (fun y0 => uG y0) (fun y0 r h => RW y0 r h) _ hx2) hO ?_
  intro H hO
  refine cQ ?_
  refine bV [] [(9, (aK x1))] ?_
  refine bJ h0 (fun h0 => ?_) (fun h0 => ?_)
  · refine bU aG 2 [(2, (.sl true 0 (fun _ => .bad))), (3, (eI (2 : Int)))] ?_
    refine bK ?_
    refine cP (l := [(2, (eL aD ([]))), (3, (eI (2 : Int)))]) ⟨[(2, (.sl true 0 (fun _ => .bad))), (3, (eI (2 : Int)))], by kernel_rfl, rfl, ⟨eD, aV.refl _, trivial⟩⟩ ?_
    obtain rfl := oI h0
    exact aJ (aS (Q_r hO))
  refine bL ?_
  refine bG [(0, (eL aD l0))] ?_
  refine aP ?_
  refine aP ?_
  refine aU aG 2 ?_
  refine bS 1 ?_
  obtain ⟨x5, hx6, h0⟩ := aX h0
  refine cF (nL l0 88 [] [] (fun y0 => uF y0) (fun y0 r h => RY y0 r h) _ hx6) hO ?_
  intro H hO
  refine cQ ?_
  refine bV [] [(11, (aK x5))] ?_
  refine bJ h0 (fun h0 => ?_) (fun h0 => ?_)
  · refine bU aG 2 [(2, (.sl true 0 (fun _ => .bad))), (3, (eI (13 : Int)))] ?_
    refine bK ?_
    refine cP (l := [(2, (eL aD ([]))), (3, (eI (13 : Int)))]) ⟨[(2, (.sl true 0 (fun _ => .bad))), (3, (eI (13 : Int)))], by kernel_rfl, rfl, ⟨eD, aV.refl _, trivial⟩⟩ ?_
    obtain rfl := oI h0
    exact aJ (aS (Q_r hO))
  refine bL ?_
  refine bG [(0, (eL aD l0))] ?_
  refine aP ?_
  refine aU aG 3 ?_
  refine bS 1 ?_
  obtain ⟨x9, hx10, h0⟩ := aX h0
  refine XJ (L' := fun lo11 => [(lo11, 2, List.map aD x9)]) 2 (List.map aD x9) 89 [(eL aD l0)] (fun lo11 => (.msl 2 lo11 0 (List.length x9))) (by kernel_rfl) (by kernel_rfl) (zN l0 _ hx10) hO (fun _ => by kernel_rfl) ?_
  intro lo11 H hO
  refine bF ?_
  refine bG [(4, (.msl 2 lo11 0 (List.length x9)))] ?_
  refine aP ?_
  refine aU aG 2 ?_
  refine bS 1 ?_
  obtain ⟨x12, hx13, h0⟩ := aX h0
  refine pI [(lo11, 2, List.map aD x12)] 0 (tA lo11 x9 91 [] [] (fun y0 y1 => nG y0 y1) (fun y0 y1 r h => RN y0 y1 r h) _ hx13) hO ?_
  intro H hO hl14
  simp only [List.length_map] at hl14
  refine cQ ?_
  refine cP (l := [(4, (.msl 2 lo11 0 (List.length x12)))]) ⟨[(4, (.msl 2 lo11 0 (List.length x9)))], by kernel_rfl, rfl, ⟨aV.eq (by simp [hl14]), trivial⟩⟩ ?_
  refine aJ (aI (?_))
  refine aP ?_
  refine aU aG 2 ?_
  refine nP (xs := []) (k := 2) (by kernel_rfl) (by kernel_rfl) ?_
  refine bF ?_
  refine bV [] [(5, (.sl true 0 (fun _ => .bad)))] ?_
  refine cR (fun T H => ∃ out5 : List aB, ∃ lo15 : Nat, Has T [(5, (.msl 2 lo15 0 (List.length out5)))] ∧ aM ⟨H0, [], []⟩ H [(lo15, 2, List.map aD out5)] ∧ wF out5 = some r) ?_ ?_
  · clear hO h0
    rintro T H ⟨out5, lo15, hT, hO, h0⟩
    refine bB hT ?_
    clear hT
    unfold wF at h0
    refine aP ?_
    refine aU aG 6 ?_
    refine ES (e := aD) out5 0 5 2 lo15 (List.length out5) [] (by kernel_rfl) hO (by kernel_rfl) (by kernel_rfl) (by kernel_rfl) (by kernel_rfl) ?_
    intro H hO
    refine bS 1 ?_
    obtain ⟨x16, hx17, h0⟩ := aX h0
    refine cF (WG out5 _ hx17) hO ?_
    intro H hO
    refine bF ?_
    refine bG [(2, (eL aD x16.1)), (3, (eI x16.2))] ?_
    refine bK ?_
    obtain rfl := oI h0
    exact aJ (Q_r hO)
  refine aZ aG 1 [] [(6, (eI (0 : Int)))] ?_
  refine bT 0 ?_
  refine cT [(4, (.msl 2 lo11 0 (List.length x12))), (5, (.sl true 0 (fun _ => .bad))), (6, (eI (0 : Int)))] ?_
  refine CO (el := (fun _ => .bad)) 1 5 2 hO (by kernel_rfl) ?_
  intro lo40 H41 hO
  refine cH (fun T H => ∃ all4 : List aB, ∃ out5 : List aB, ∃ i6 : Int, ∃ lo21 : Nat, ∃ lo22 : Nat, Has T [(4, (.msl 2 lo21 0 (List.length all4))), (5, (.msl 2 lo22 0 (List.length out5))), (6, (eI i6))] ∧ aM ⟨H0, [], []⟩ H [(lo21, 2, List.map aD all4), (lo22, 2, List.map aD out5)] ∧ AG all4 out5 i6 = some r) ?_ ⟨x12, ([] : List aB), (0 : Int), lo11, lo40, .eq (by kernel_rfl), hO, h0⟩
  clear hO h0
  rintro T H ⟨all4, out5, i6, lo21, lo22, hT, hO, h0⟩
  refine bB hT ?_
  clear hT
  unfold AG at h0
  obtain ⟨rr0, hl0, h0⟩ := aX h0
  refine bZ (by kernel_rfl) (fun (s : List aB × List aB × Int) T H => ∃ lo21 : Nat, ∃ lo22 : Nat, Has T [(4, (.msl 2 lo21 0 (List.length s.1))), (5, (.msl 2 lo22 0 (List.length s.2.1))), (6, (eI s.2.2))] ∧ aM ⟨H0, [], []⟩ H [(lo21, 2, List.map aD s.1), (lo22, 2, List.map aD s.2.1)]) hl0 ⟨lo21, lo22, .eq (by kernel_rfl), hO⟩ ?_
  clear hO
  rintro k0 s out1 T H ⟨lo21, lo22, hT, hO⟩ h1 ho0
  obtain ⟨all4, out5, i6⟩ := s
  replace h1 : lQ all4 out5 i6 = some out1 := h1
  try dsimp only at hT
  refine bB hT ?_
  clear hT
  unfold lQ at h1
  refine aP ?_
  refine aZ aG 4 [] [(20, (aK (decide (i6 < (lN all4)))))] ?_
  refine bJ h1 (fun h1 => ?_) (fun h1 => ?_)
  · refine bL ?_
    refine bG [(4, (.msl 2 lo21 0 (List.length all4))), (5, (.msl 2 lo22 0 (List.length out5))), (6, (eI i6))] ?_
    refine bT 1 ?_
    refine aP ?_
    refine aU aG 8 ?_
    obtain ⟨c24, h1⟩ := bH h1
    refine mA 4 [0 ≤ i6 ∧ i6 < (lN all4)] ⟨c24, trivial⟩ ?_
    refine jZ 0 lo21 2 (0 + Int.toNat i6) (aD (gD all4 i6)) (eI ((gD all4 i6).At)) (List.map aD all4) hO (cU c24) ?_
    refine bS 6 ?_
    refine mV 2 (aD (aB.mk 0 0)) (by kernel_rfl) (by kernel_rfl) hO ?_
    intro lo25 H hO
    refine jP 2 lo25 2 0 (aD (aB.mk 0 0)) (aD (aB.mk ((gD all4 i6).At) 0)) [(aD (aB.mk 0 0))] [(lo21, 2, List.map aD all4), (lo22, 2, List.map aD out5), (lo25, 2, [(aD (aB.mk ((gD all4 i6).At) 0))])] hO rfl (by kernel_rfl) ?_
    intro H hO
    refine cQ ?_
    refine bV [] [(7, (.lp lo25 0 0))] ?_
    refine cR (fun T H => ∃ all4 : List aB, ∃ out5 : List aB, ∃ i6 : Int, ∃ j7 : aB, ∃ lo26 : Nat, ∃ lo27 : Nat, Has T [(4, (.msl 2 lo26 0 (List.length all4))), (5, (.msl 2 lo27 0 (List.length out5))), (6, (eI i6)), (7, (.lp lo25 0 0))] ∧ aM ⟨H0, [], []⟩ H [(lo26, 2, List.map aD all4), (lo27, 2, List.map aD out5), (lo25, 2, [(aD j7)])] ∧ vU all4 out5 i6 j7 = some out1) ?_ ?_
    · clear hO h1
      rintro T H ⟨all4, out5, i6, j7, lo26, lo27, hT, hO, h1⟩
      refine bB hT ?_
      clear hT
      unfold vU at h1
      refine aP ?_
      refine aU aG 8 ?_
      refine bS 1 ?_
      refine jZ 2 lo25 2 0 (aD j7) (eI j7.Net) [(aD j7)] hO rfl ?_
      refine bS 5 ?_
      refine BN [(55, true)] 2 lo25 2 0 (aD j7) (eI j7.At) [(aD j7)] (by kernel_rfl) (by kernel_rfl) hO (by kernel_rfl) (!decide (j7.Net = (0 : Int))) (by kernel_rfl) (fun hb28 => rfl) ?_
      refine bF ?_
      refine bV [] [(59, (aK ((!decide (j7.Net = (0 : Int))) && (decide (j7.At < (1125899906842624 : Int))))))] ?_
      refine bJ h1 (fun h1 => ?_) (fun h1 => ?_)
      · refine aU aG 5 ?_
        refine bS 1 ?_
        refine jZ 2 lo25 2 0 (aD j7) (aD j7) [(aD j7)] hO rfl ?_
        refine nP (xs := [(aD j7)]) (k := 2) (by kernel_rfl) (by kernel_rfl) ?_
        obtain ⟨c31, h1⟩ := bH h1
        refine xL (e := aD) out5 ([j7]) 1 lo27 2 16 (dH [(aD j7)]) (fun lo30 => [(lo26, 2, List.map aD all4), (lo30, 2, List.map aD (out5 ++ ([j7]))), (lo25, 2, [(aD j7)])]) (by kernel_rfl) (by kernel_rfl) hO (by kernel_rfl) (by kernel_rfl) c31 (fun _ => by kernel_rfl) ?_
        intro lo30 H hO
        refine bF ?_
        replace hO := hO.pick (L' := [(lo26, 2, List.map aD all4), (lo30, 2, List.map aD (out5 ++ ([j7])))]) [0, 1] (by decide) (by kernel_rfl)
        exact aJ (aW (aI (⟨rfl, _, (oI h1).symm, _, _, .eq (by kernel_rfl), hO⟩)))
      refine bL ?_
      replace hO := hO.pick (L' := [(lo26, 2, List.map aD all4), (lo27, 2, List.map aD out5)]) [0, 1] (by decide) (by kernel_rfl)
      exact aJ (aW (aI (⟨rfl, _, (oI h1).symm, _, _, .eq (by kernel_rfl), hO⟩)))
    refine bT 2 ?_
    refine cT [(4, (.msl 2 lo21 0 (List.length all4))), (5, (.msl 2 lo22 0 (List.length out5))), (6, (eI i6)), (7, (.lp lo25 0 0))] ?_
    refine cH (fun T H => ∃ all4 : List aB, ∃ out5 : List aB, ∃ i6 : Int, ∃ j7 : aB, ∃ lo34 : Nat, ∃ lo35 : Nat, Has T [(4, (.msl 2 lo34 0 (List.length all4))), (5, (.msl 2 lo35 0 (List.length out5))), (6, (eI i6)), (7, (.lp lo25 0 0))] ∧ aM ⟨H0, [], []⟩ H [(lo34, 2, List.map aD all4), (lo35, 2, List.map aD out5), (lo25, 2, [(aD j7)])] ∧ AL all4 out5 i6 j7 = some out1) ?_ ⟨all4, out5, i6, aB.mk ((gD all4 i6).At) 0, lo21, lo22, .eq (by kernel_rfl), hO, h1⟩
    clear hO h1
    rintro T H ⟨all4, out5, i6, j7, lo34, lo35, hT, hO, h1⟩
    refine bB hT ?_
    clear hT
    unfold AL at h1
    obtain ⟨rr1, hl1, h1⟩ := aX h1
    refine bZ (by kernel_rfl) (fun (s : List aB × List aB × Int × aB) T H => ∃ lo34 : Nat, ∃ lo35 : Nat, Has T [(4, (.msl 2 lo34 0 (List.length s.1))), (5, (.msl 2 lo35 0 (List.length s.2.1))), (6, (eI s.2.2.1)), (7, (.lp lo25 0 0))] ∧ aM ⟨H0, [], []⟩ H [(lo34, 2, List.map aD s.1), (lo35, 2, List.map aD s.2.1), (lo25, 2, [(aD s.2.2.2)])]) hl1 ⟨lo34, lo35, .eq (by kernel_rfl), hO⟩ ?_
    clear hO
    rintro k1 s out2 T H ⟨lo34, lo35, hT, hO⟩ h2 ho1
    obtain ⟨all4, out5, i6, j7⟩ := s
    replace h2 : jT all4 out5 i6 j7 = some out2 := h2
    try dsimp only at hT
    refine bB hT ?_
    clear hT
    unfold jT at h2
    refine aP ?_
    refine aP ?_
    obtain ⟨c36, h2⟩ := bH h2
    refine fQ (fP []) aG 14 ?_
    refine wK (K := fun T H => Has (lift T) [(4, (.msl 2 lo34 0 (List.length all4))), (5, (.msl 2 lo35 0 (List.length out5))), (6, (eI i6)), (7, (.lp lo25 0 0)), (40, (aK ((decide (i6 < (lN all4))) && (decide (((gD all4 i6).At) = j7.At)))))] ∧ aM ⟨H0, [], []⟩ H [(lo34, 2, List.map aD all4), (lo35, 2, List.map aD out5), (lo25, 2, [(aD j7)])]) ?_ ?_
    · refine qG 5 ?_
      refine rA (t := 31) (e := decide (i6 < (lN all4))) (by kernel_rfl) (fun hg37 => ?_) (fun hg37 => ?_)
      · refine cZ 9 [0 ≤ i6 ∧ i6 < (lN all4)] ⟨(c36 hg37), trivial⟩ ?_
        refine zV 0 lo34 2 (0 + Int.toNat i6) (aD (gD all4 i6)) (eI ((gD all4 i6).At)) (List.map aD all4) (by kernel_rfl) (by kernel_rfl) (by kernel_rfl) hO (by kernel_rfl) (cU (c36 hg37)) ?_
        refine qG 11 ?_
        refine zV 2 lo25 2 0 (aD j7) (eI j7.At) [(aD j7)] (by kernel_rfl) (by kernel_rfl) (by kernel_rfl) hO (by kernel_rfl) rfl ?_
        refine jO ?_
        exact ⟨⟨[(4, (.msl 2 lo34 0 (List.length all4))), (5, (.msl 2 lo35 0 (List.length out5))), (6, (eI i6)), (7, (.lp lo25 0 0)), (40, (aK (decide (((gD all4 i6).At) = j7.At))))], by kernel_rfl, rfl, ⟨aV.refl _, aV.refl _, aV.refl _, aV.refl _, aV.eq (congrArg aK (rZ hg37 rfl).symm), trivial⟩⟩, hO⟩
      refine jO ?_
      exact ⟨⟨[(4, (.msl 2 lo34 0 (List.length all4))), (5, (.msl 2 lo35 0 (List.length out5))), (6, (eI i6)), (7, (.lp lo25 0 0)), (40, (aK false))], by kernel_rfl, rfl, ⟨aV.refl _, aV.refl _, aV.refl _, aV.refl _, aV.eq (congrArg aK (rZ hg37 rfl).symm), trivial⟩⟩, hO⟩
    · rintro T H ⟨hT, hO⟩
      refine cP hT ?_
      clear hT
      refine aJ (aI ?_)
      refine bJ h2 (fun h2 => ?_) (fun h2 => ?_)
      · refine bL ?_
        refine bG [(4, (.msl 2 lo34 0 (List.length all4))), (5, (.msl 2 lo35 0 (List.length out5))), (6, (eI i6)), (7, (.lp lo25 0 0))] ?_
        refine aP ?_
        refine bT 3 ?_
        refine fQ (fP []) aG 10 ?_
        refine qG 1 ?_
        refine kX 2 lo25 2 0 (aD j7) (eI j7.Net) [(aD j7)] hO rfl ?_
        obtain ⟨c39, h2⟩ := bH h2
        refine cZ 6 [0 ≤ i6 ∧ i6 < (lN all4)] ⟨c39, trivial⟩ ?_
        refine kX 0 lo34 2 (0 + Int.toNat i6) (aD (gD all4 i6)) (eI ((gD all4 i6).Net)) (List.map aD all4) hO (cU c39) ?_
        refine qG 9 ?_
        refine tD 2 lo25 2 0 (aD j7) (aD (aB.mk j7.At (wR (j7.Net + ((gD all4 i6).Net))))) [(aD j7)] [(lo34, 2, List.map aD all4), (lo35, 2, List.map aD out5), (lo25, 2, [(aD (aB.mk j7.At (wR (j7.Net + ((gD all4 i6).Net)))))])] hO rfl (by kernel_rfl) ?_
        intro H hO
        refine AO (by kernel_rfl) ?_
        refine cX [(4, (.msl 2 lo34 0 (List.length all4))), (5, (.msl 2 lo35 0 (List.length out5))), (6, (eI i6)), (7, (.lp lo25 0 0))] ?_
        refine aJ (aW (aI (?_)))
        refine aU aG 3 ?_
        refine bF ?_
        exact aJ (aI (⟨rfl, _, (oI h2).symm, _, _, .eq (by kernel_rfl), hO⟩))
      refine cY 2 ?_
      obtain rfl := oI h2
      obtain rfl : _ = rr1 := ho1
      replace h1 : vU all4 out5 i6 j7 = some out1 := h1
      exact aJ (aT (aT (bO (aI (⟨rfl, _, _, _, _, _, _, .eq (by kernel_rfl), hO, h1⟩)))))
  refine cY 0 ?_
  replace hO := hO.pick (L' := [(lo22, 2, List.map aD out5)]) [1] (by decide) (by kernel_rfl)
  obtain rfl := oI h1
  obtain rfl : _ = rr0 := ho0
  replace h0 : wF out5 = some r := h0
  exact aJ (aT (aT (bO (aI (⟨rfl, _, _, .eq (by kernel_rfl), hO, h0⟩)))))

theorem RQ (f0 : (List aB)) (r : ((List aB) × Int)) (h0 : tZ f0 = some r) : bY Tryz.prog 64 [(eL aD f0)] (.tup [(eL aD r.1), (eI r.2)]) := by
  intro H0
  refine cG Tryz.func64 ?_
  have hO := aM.start H0
  unfold tZ at h0
  refine aZ aG 2 [] [] ?_
  refine aP ?_
  refine aU aG 6 ?_
  refine bS 1 ?_
  obtain ⟨x1, hx2, h0⟩ := aX h0
  refine cF (WK f0 _ hx2) hO ?_
  intro H hO
  refine bF ?_
  refine bG [(2, (eL aD x1.1)), (3, (eI x1.2))] ?_
  refine bK ?_
  obtain rfl := oI h0
  exact aJ (Q_r hO)

theorem WB (l0 : (List aC)) (r : ((List aC) × Int)) (h0 : xW l0 = some r) : bY Tryz.prog 33 [(eL aE l0)] (.tup [(eL aE r.1), (eI r.2)]) := by
  intro H0
  refine cG Tryz.func33 ?_
  have hO := aM.start H0
  unfold xW at h0
  refine aZ aG 2 [] [] ?_
  refine aP ?_
  refine aP ?_
  refine aU aG 2 ?_
  refine bS 1 ?_
  obtain ⟨x1, hx2, h0⟩ := aX h0
  refine cF (nH l0 55 [] [] (fun y0 => uO y0) (fun y0 r h => RP y0 r h) _ hx2) hO ?_
  intro H hO
  refine cQ ?_
  refine bV [] [(6, (aK x1))] ?_
  refine bJ h0 (fun h0 => ?_) (fun h0 => ?_)
  · refine bU aG 2 [(2, (.sl true 0 (fun _ => .bad))), (3, (eI (2 : Int)))] ?_
    refine bK ?_
    refine cP (l := [(2, (eL aE ([]))), (3, (eI (2 : Int)))]) ⟨[(2, (.sl true 0 (fun _ => .bad))), (3, (eI (2 : Int)))], by kernel_rfl, rfl, ⟨eD, aV.refl _, trivial⟩⟩ ?_
    obtain rfl := oI h0
    exact aJ (aS (Q_r hO))
  refine bL ?_
  refine bG [(0, (eL aE l0))] ?_
  refine aP ?_
  refine aP ?_
  refine aU aG 2 ?_
  refine bS 1 ?_
  obtain ⟨x5, hx6, h0⟩ := aX h0
  refine cF (nH l0 56 [] [] (fun y0 => tW y0) (fun y0 r h => RL y0 r h) _ hx6) hO ?_
  intro H hO
  refine cQ ?_
  refine bV [] [(8, (aK x5))] ?_
  refine bJ h0 (fun h0 => ?_) (fun h0 => ?_)
  · refine bU aG 2 [(2, (.sl true 0 (fun _ => .bad))), (3, (eI (13 : Int)))] ?_
    refine bK ?_
    refine cP (l := [(2, (eL aE ([]))), (3, (eI (13 : Int)))]) ⟨[(2, (.sl true 0 (fun _ => .bad))), (3, (eI (13 : Int)))], by kernel_rfl, rfl, ⟨eD, aV.refl _, trivial⟩⟩ ?_
    obtain rfl := oI h0
    exact aJ (aS (Q_r hO))
  refine bL ?_
  refine bG [(0, (eL aE l0))] ?_
  refine aP ?_
  refine aU aG 3 ?_
  refine bS 1 ?_
  obtain ⟨x9, hx10, h0⟩ := aX h0
  refine XJ (L' := fun lo11 => [(lo11, 3, List.map aE x9)]) 3 (List.map aE x9) 57 [(eL aE l0)] (fun lo11 => (.msl 3 lo11 0 (List.length x9))) (by kernel_rfl) (by kernel_rfl) (zP l0 _ hx10) hO (fun _ => by kernel_rfl) ?_
  intro lo11 H hO
  refine bF ?_
  refine bG [(4, (.msl 3 lo11 0 (List.length x9)))] ?_
  refine aP ?_
  refine aU aG 2 ?_
  refine bS 1 ?_
  obtain ⟨x12, hx13, h0⟩ := aX h0
  refine pI [(lo11, 3, List.map aE x12)] 0 (tC lo11 x9 59 [] [] (fun y0 y1 => nE y0 y1) (fun y0 y1 r h => RX y0 y1 r h) _ hx13) hO ?_
  intro H hO hl14
  simp only [List.length_map] at hl14
  refine cQ ?_
  refine cP (l := [(4, (.msl 3 lo11 0 (List.length x12)))]) ⟨[(4, (.msl 3 lo11 0 (List.length x9)))], by kernel_rfl, rfl, ⟨aV.eq (by simp [hl14]), trivial⟩⟩ ?_
  refine aJ (aI (?_))
  refine aP ?_
  refine aU aG 6 ?_
  refine ES (e := aE) x12 0 4 3 lo11 (List.length x12) [] (by kernel_rfl) hO (by kernel_rfl) (by kernel_rfl) (by kernel_rfl) (by kernel_rfl) ?_
  intro H hO
  refine bS 1 ?_
  obtain ⟨x15, hx16, h0⟩ := aX h0
  refine cF (RU x12 64 [] [] (fun y0 => tZ y0) (fun y0 r h => RQ y0 r h) _ hx16) hO ?_
  intro H hO
  refine bF ?_
  refine bG [(2, (eL aE x15.1)), (3, (eI x15.2))] ?_
  refine bK ?_
  obtain rfl := oI h0
  exact aJ (Q_r hO)

theorem IQ (l0 : (List aN)) (r : ((List aC) × Int)) (h0 : sZ l0 = some r) : bY Tryz.prog 10 [(eL aL l0)] (.tup [(eL aE r.1), (eI r.2)]) := by
  intro H0
  refine cG Tryz.func10 ?_
  have hO := aM.start H0
  unfold sZ at h0
  refine aZ aG 2 [] [] ?_
  refine aP ?_
  refine aP ?_
  refine aU aG 2 ?_
  refine bS 1 ?_
  obtain ⟨x1, hx2, h0⟩ := aX h0
  refine cF (tB l0 32 [] [] (fun y0 => sN y0) (fun y0 r h => OU y0 r h) _ hx2) hO ?_
  intro H hO
  refine cQ ?_
  refine bV [] [(8, (aK x1))] ?_
  refine bJ h0 (fun h0 => ?_) (fun h0 => ?_)
  · refine bU aG 2 [(2, (.sl true 0 (fun _ => .bad))), (3, (eI (2 : Int)))] ?_
    refine bK ?_
    refine cP (l := [(2, (eL aE ([]))), (3, (eI (2 : Int)))]) ⟨[(2, (.sl true 0 (fun _ => .bad))), (3, (eI (2 : Int)))], by kernel_rfl, rfl, ⟨eD, aV.refl _, trivial⟩⟩ ?_
    obtain rfl := oI h0
    exact aJ (aS (Q_r hO))
  refine bL ?_
  refine bG [(0, (eL aL l0))] ?_
  refine aP ?_
  refine aZ aG 3 [] [(11, (aK (decide ((4096 : Int) < (lN l0)))))] ?_
  refine bJ h0 (fun h0 => ?_) (fun h0 => ?_)
  · refine bU aG 2 [(2, (.sl true 0 (fun _ => .bad))), (3, (eI (7 : Int)))] ?_
    refine bK ?_
    refine cP (l := [(2, (eL aE ([]))), (3, (eI (7 : Int)))]) ⟨[(2, (.sl true 0 (fun _ => .bad))), (3, (eI (7 : Int)))], by kernel_rfl, rfl, ⟨eD, aV.refl _, trivial⟩⟩ ?_
    obtain rfl := oI h0
    exact aJ (aS (Q_r hO))
  refine bL ?_
  refine bG [(0, (eL aL l0))] ?_
  refine aP ?_
  refine aU aG 5 ?_
  refine bS 3 ?_
  obtain ⟨c6, h0⟩ := bH h0
  refine KL 3 40 (wR ((2 : Int) * (lN l0))) (by kernel_rfl) (by kernel_rfl) c6 hO ?_
  intro lo7 H hO
  refine bF ?_
  refine bV [] [(4, (.msl 3 lo7 0 (List.length ([] : List aC))))] ?_
  refine cR (fun T H => ∃ out4 : List aC, ∃ lo8 : Nat, Has T [(4, (.msl 3 lo8 0 (List.length out4)))] ∧ aM ⟨H0, [], []⟩ H [(lo8, 3, List.map aE out4)] ∧ uN out4 = some r) ?_ ?_
  · clear hO h0
    rintro T H ⟨out4, lo8, hT, hO, h0⟩
    refine bB hT ?_
    clear hT
    unfold uN at h0
    refine aP ?_
    refine aU aG 6 ?_
    refine ES (e := aE) out4 0 4 3 lo8 (List.length out4) [] (by kernel_rfl) hO (by kernel_rfl) (by kernel_rfl) (by kernel_rfl) (by kernel_rfl) ?_
    intro H hO
    refine bS 1 ?_
    obtain ⟨x9, hx10, h0⟩ := aX h0
    refine cF (WB out4 _ hx10) hO ?_
    intro H hO
    refine bF ?_
    refine bG [(2, (eL aE x9.1)), (3, (eI x9.2))] ?_
    refine bK ?_
    obtain rfl := oI h0
    exact aJ (Q_r hO)
  refine aZ aG 3 [0] [(16, (eL aL l0)), (17, (eI (lN l0))), (18, (eI (0 : Int)))] ?_
  refine bT 0 ?_
  refine cT [(4, (.msl 3 lo7 0 (List.length ([] : List aC)))), (16, (eL aL l0)), (17, (eI (lN l0))), (18, (eI (0 : Int)))] ?_
  refine cH (fun T H => ∃ out4 : List aC, ∃ t16 : (List aN), ∃ t17 : Int, ∃ t18 : Int, ∃ lo13 : Nat, Has T [(4, (.msl 3 lo13 0 (List.length out4))), (16, (eL aL t16)), (17, (eI t17)), (18, (eI t18))] ∧ aM ⟨H0, [], []⟩ H [(lo13, 3, List.map aE out4)] ∧ zG out4 t16 t17 t18 = some r) ?_ ⟨([] : List aC), l0, (lN l0), (0 : Int), lo7, .eq (by kernel_rfl), hO, h0⟩
  clear hO h0
  rintro T H ⟨out4, t16, t17, t18, lo13, hT, hO, h0⟩
  refine bB hT ?_
  clear hT
  unfold zG at h0
  obtain ⟨rr0, hl0, h0⟩ := aX h0
  refine bZ (by kernel_rfl) (fun (s : List aC × Int) T H => ∃ lo13 : Nat, Has T [(4, (.msl 3 lo13 0 (List.length s.1))), (16, (eL aL t16)), (17, (eI t17)), (18, (eI s.2))] ∧ aM ⟨H0, [], []⟩ H [(lo13, 3, List.map aE s.1)]) hl0 ⟨lo13, .eq (by kernel_rfl), hO⟩ ?_
  clear hO
  rintro k0 s out1 T H ⟨lo13, hT, hO⟩ h1 ho0
  obtain ⟨out4, t18⟩ := s
  replace h1 : nJ t16 t17 out4 t18 = some out1 := h1
  try dsimp only at hT
  refine bB hT ?_
  clear hT
  unfold nJ at h1
  refine aZ aG 1 [] [(19, (aK (decide (t18 < t17))))] ?_
  refine aP ?_
  refine bJ h1 (fun h1 => ?_) (fun h1 => ?_)
  · refine bL ?_
    refine bG [(4, (.msl 3 lo13 0 (List.length out4))), (16, (eL aL t16)), (17, (eI t17)), (18, (eI t18))] ?_
    refine aP ?_
    refine bT 1 ?_
    refine aP ?_
    refine aU aG 4 ?_
    obtain ⟨c15, h1⟩ := bH h1
    refine mA 2 [0 ≤ t18 ∧ t18 < (lN t16)] ⟨c15, trivial⟩ ?_
    refine tG 3 (.agg [(.sl true 0 (fun _ => .bad)), (eI 0), (eI 0)]) (aL (aN.mk ([]) (aR.mk 0 0))) (by kernel_rfl) (by kernel_rfl) (by kernel_rfl) (JG (xs := [(.sl true 0 (fun _ => .bad)), (eI 0), (eI 0)]) (ys := [(eL aH ([])), (eI 0), (eI 0)]) ⟨eD, aV.refl _, aV.refl _, trivial⟩) (by kernel_rfl) (by kernel_rfl) hO ?_
    intro lo16 H hO
    refine jP 1 lo16 3 0 (aL (aN.mk ([]) (aR.mk 0 0))) (aL (gD t16 t18)) [(aL (aN.mk ([]) (aR.mk 0 0)))] [(lo13, 3, List.map aE out4), (lo16, 3, [(aL (gD t16 t18))])] hO rfl (by kernel_rfl) ?_
    intro H hO
    refine cQ ?_
    refine bV [] [(6, (.lp lo16 0 0))] ?_
    refine aU aG 16 ?_
    refine bS 2 ?_
    refine jZ 1 lo16 3 0 (aL (gD t16 t18)) (eL aH ((gD t16 t18).Row)) [(aL (gD t16 t18))] hO rfl ?_
    refine bS 5 ?_
    refine jZ 1 lo16 3 0 (aL (gD t16 t18)) (eI (((gD t16 t18).Span).From)) [(aL (gD t16 t18))] hO rfl ?_
    refine bS 8 ?_
    refine jZ 1 lo16 3 0 (aL (gD t16 t18)) (eL aH ((gD t16 t18).Row)) [(aL (gD t16 t18))] hO rfl ?_
    refine bS 11 ?_
    refine jZ 1 lo16 3 0 (aL (gD t16 t18)) (eI (((gD t16 t18).Span).To)) [(aL (gD t16 t18))] hO rfl ?_
    refine bS 13 ?_
    refine nP (xs := [(aE (aC.mk ((gD t16 t18).Row) (((gD t16 t18).Span).From) (1 : Int))), (aE (aC.mk ((gD t16 t18).Row) (((gD t16 t18).Span).To) (-1 : Int)))]) (k := 3) (by kernel_rfl) (by kernel_rfl) ?_
    obtain ⟨c18, h1⟩ := bH h1
    refine xL (e := aE) out4 ([aC.mk ((gD t16 t18).Row) (((gD t16 t18).Span).From) (1 : Int), aC.mk ((gD t16 t18).Row) (((gD t16 t18).Span).To) (-1 : Int)]) 0 lo13 3 40 (dH [(aE (aC.mk ((gD t16 t18).Row) (((gD t16 t18).Span).From) (1 : Int))), (aE (aC.mk ((gD t16 t18).Row) (((gD t16 t18).Span).To) (-1 : Int)))]) (fun lo17 => [(lo17, 3, List.map aE (out4 ++ ([aC.mk ((gD t16 t18).Row) (((gD t16 t18).Span).From) (1 : Int), aC.mk ((gD t16 t18).Row) (((gD t16 t18).Span).To) (-1 : Int)]))), (lo16, 3, [(aL (gD t16 t18))])]) (by kernel_rfl) (by kernel_rfl) hO (by kernel_rfl) (by kernel_rfl) c18 (fun _ => by kernel_rfl) ?_
    intro lo17 H hO
    refine bF ?_
    refine cX [(4, (.msl 3 lo17 0 (List.length (out4 ++ ([aC.mk ((gD t16 t18).Row) (((gD t16 t18).Span).From) (1 : Int), aC.mk ((gD t16 t18).Row) (((gD t16 t18).Span).To) (-1 : Int)]))))), (16, (eL aL t16)), (17, (eI t17)), (18, (eI t18))] ?_
    replace hO := hO.pick (L' := [(lo17, 3, List.map aE (out4 ++ ([aC.mk ((gD t16 t18).Row) (((gD t16 t18).Span).From) (1 : Int), aC.mk ((gD t16 t18).Row) (((gD t16 t18).Span).To) (-1 : Int)])))]) [0] (by decide) (by kernel_rfl)
    refine aJ (aW (aI (?_)))
    refine aU aG 2 ?_
    refine bF ?_
    exact aJ (aI (⟨rfl, _, (oI h1).symm, _, .eq (by kernel_rfl), hO⟩))
  refine cY 0 ?_
  obtain rfl := oI h1
  obtain rfl : _ = rr0 := ho0
  replace h0 : uN out4 = some r := h0
  exact aJ (aT (aT (bO (aI (⟨rfl, _, _, .eq (by kernel_rfl), hO, h0⟩)))))

theorem LG (l0 : (List aC)) (holds1_f : Nat) (holds1_a holds1_c : List V) (vO : (List aB) → Option Bool) (holds1_h : ∀ a0 r, vO a0 = some r → bY Tryz.prog holds1_f (holds1_a ++ [(eL aD a0)] ++ holds1_c) (aK r)) (r : Bool) (h0 : uV l0 vO = some r) : bY Tryz.prog 43 [(eL aE l0), (.fn (.func holds1_f) holds1_a holds1_c)] (aK r) := by
  intro H0
  refine GI aG Tryz.func43 (by kernel_rfl) (by kernel_rfl) (by kernel_rfl) ?_
  have hO := aM.start H0
  unfold uV at h0
  refine aP ?_
  refine aU aG 2 ?_
  refine fS 1 (.fn (.func holds1_f) holds1_a holds1_c) (by kernel_rfl) (by kernel_rfl) ?_
  refine mV 1 (aK false) (by kernel_rfl) (by kernel_rfl) hO ?_
  intro lo1 H hO
  refine cQ ?_
  refine bV [1] [(3, (.rp (.fn (.func holds1_f) holds1_a holds1_c))), (4, (.lp lo1 0 0))] ?_
  refine aP ?_
  refine aZ aG 3 [] [(11, (aK (decide ((4096 : Int) < (lN l0)))))] ?_
  refine bJ h0 (fun h0 => ?_) (fun h0 => ?_)
  · refine aP ?_
    refine aU aG 1 ?_
    refine jP 0 lo1 1 0 (aK false) (aK false) [(aK false)] [(lo1, 1, [(aK false)])] hO rfl (by kernel_rfl) ?_
    intro H hO
    refine cQ ?_
    refine bG [(4, (.lp lo1 0 0))] ?_
    refine bK ?_
    obtain rfl := oI h0
    exact aJ (aS (QM0 (.inr rfl) (rs := [.cell 4 4]) (xs := [(aK false)]) (x := (aK false)) (by kernel_rfl) (zT (lo := lo1) (k := 1) (y := (aK false)) (x := (aK false)) 0 hO (by kernel_rfl) (by kernel_rfl) (by kernel_rfl) (by kernel_rfl) sJ) (by kernel_rfl) ⟨rfl, hO.out⟩))
  refine bL ?_
  refine bG [(0, (eL aE l0)), (3, (.rp (.fn (.func holds1_f) holds1_a holds1_c))), (4, (.lp lo1 0 0))] ?_
  refine aP ?_
  refine aU aG 1 ?_
  refine tG 1 (.sl true 0 (fun _ => .bad)) (eL aH ([])) (by kernel_rfl) (by kernel_rfl) (by kernel_rfl) (eD) (by kernel_rfl) (by kernel_rfl) hO ?_
  intro lo3 H hO
  refine cQ ?_
  refine bV [] [(5, (.lp lo3 0 0))] ?_
  refine aP ?_
  refine aU aG 2 ?_
  refine mV 1 (aK false) (by kernel_rfl) (by kernel_rfl) hO ?_
  intro lo4 H hO
  refine jP 2 lo4 1 0 (aK false) (aK false) [(aK false)] [(lo1, 1, [(aK false)]), (lo3, 1, [(eL aH ([]))]), (lo4, 1, [(aK false)])] hO rfl (by kernel_rfl) ?_
  intro H hO
  refine cQ ?_
  refine bV [] [(6, (.lp lo4 0 0))] ?_
  refine aP ?_
  refine aP ?_
  refine aU aG 2 ?_
  refine bS 1 ?_
  obtain ⟨x5, hx6, h0⟩ := aX h0
  refine cF (FV l0 _ hx6) hO ?_
  intro H hO
  refine cQ ?_
  refine bV [0] [(13, (.fn (.func 75) [] [(.rp (eL aE x5))]))] ?_
  refine bT 0 ?_
  refine cT [(3, (.rp (.fn (.func holds1_f) holds1_a holds1_c))), (4, (.lp lo1 0 0)), (5, (.lp lo3 0 0)), (6, (.lp lo4 0 0)), (13, (.fn (.func 75) [] [(.rp (eL aE x5))]))] ?_
  refine cH (fun T H => ∃ t4 : Bool, ∃ pH : (List aF), ∃ jN : Bool, ∃ kU : (List aC), Has T [(3, (.rp (.fn (.func holds1_f) holds1_a holds1_c))), (4, (.lp lo1 0 0)), (5, (.lp lo3 0 0)), (6, (.lp lo4 0 0)), (13, (.fn (.func 75) [] [(.rp (eL aE kU))]))] ∧ aM ⟨H0, [], []⟩ H [(lo1, 1, [(aK t4)]), (lo3, 1, [(eL aH pH)]), (lo4, 1, [(aK jN)])] ∧ AZ vO t4 pH jN kU = some r) ?_ ⟨false, [], false, x5, .eq (by kernel_rfl), hO, h0⟩
  clear hO h0
  rintro T H ⟨t4, pH, jN, kU, hT, hO, h0⟩
  refine bB (l := [(3, (.rp (.fn (.func holds1_f) holds1_a holds1_c))), (4, (.lp lo1 0 0)), (5, (.lp lo3 0 0)), (6, (.lp lo4 0 0)), (13, (.fn (.func 75) [] [(.rp (eL aE kU))]))]) hT ?_
  clear hT
  unfold AZ at h0
  obtain ⟨o0, hl0, h0⟩ := aX h0
  refine EE (fid := 75) (ys := []) (cs := [(.rp (eL aE kU))]) #[14, 15] (fun (A : BW) (b lL : Nat) (st : (Bool × (List aF) × Bool) ⊕ (Bool × (List aF) × Bool)) (G' : Gs) => Sum.elim (fun (s : Bool × (List aF) × Bool) => G' = (lL, .raw (kM b A .ready none)) :: (up [(lo1, 1, [(aK s.1)]), (lo3, 1, [(eL aH s.2.1)]), (lo4, 1, [(aK s.2.2)])] ++ [])) (fun (s : Bool × (List aF) × Bool) => G' = (lL, .raw (kM b A .done (some .ret))) :: (up [(lo1, 1, [(aK s.1)]), (lo3, 1, [(eL aH s.2.1)]), (lo4, 1, [(aK s.2.2)])] ++ [])) st) (.inl (t4, pH, jN)) o0 (.tup []) (by kernel_rfl) (by kernel_rfl) (by kernel_rfl) hO (fun _ _ => rfl) ?_ ?_
  · intro b lL
    clear hO h0
    refine BG _ b (fun st t14 t15 => rnd (fun (s : Bool × (List aF) × Bool) => qL vO kU s.1 s.2.1 s.2.2 t14 t15) st) ?_ kU _ _ hl0
    intro st t14 t15 out1 rr hr
    obtain ⟨s, rfl, h1, rfl⟩ := SL hr
    clear hr
    intro Hr Gr hi hg
    obtain ⟨t4, pH, jN⟩ := s
    dsimp only [Sum.elim_inl] at hi
    obtain rfl := hi
    replace h1 : qL vO kU t4 pH jN t14 t15 = some out1 := h1
    unfold qL at h1
    obtain ⟨E1, hE, hO⟩ := yA hg
    refine yF (EA (hO.gm 0 _ rfl).2 (by kernel_rfl) (by kernel_rfl) ?_)
    refine cT [(3, (.rp (.fn (.func holds1_f) holds1_a holds1_c))), (4, (.lp lo1 0 0)), (5, (.lp lo3 0 0)), (6, (.lp lo4 0 0)), (13, (.fn (.func 75) [] [(.rp (eL aE kU))])), (14, (eL aH t14)), (15, (eL aD t15))] ?_
    refine aZ aG 1 [13, 14] [(7, (eL aH t14))] ?_
    refine aU aG 1 ?_
    refine bF ?_
    refine cX [(3, (.rp (.fn (.func holds1_f) holds1_a holds1_c))), (4, (.lp lo1 0 0)), (5, (.lp lo3 0 0)), (6, (.lp lo4 0 0)), (7, (eL aH t14)), (8, (eL aD t15))] ?_
    refine aJ (⟨rfl, rfl, (hO.gm 0 _ rfl).2, ?_⟩)
    intro o1 ho1
    replace hO := hO.xN o1
    refine bT 1 ?_
    refine aP ?_
    refine aP ?_
    refine aU aG 18 ?_
    refine bS 1 ?_
    obtain ⟨x7, hx8, h1⟩ := aX h1
    refine cF (CG t14 _ hx8) hO ?_
    intro H hO
    refine bS 4 ?_
    refine BN [(19, false)] 2 lo4 1 0 (aK jN) (aK jN) [(aK jN)] (by kernel_rfl) (by kernel_rfl) hO (by kernel_rfl) (!(!x7)) (by kernel_rfl) (fun hb10 => rfl) ?_
    refine bS 6 ?_
    refine BN [(21, true), (19, false)] 1 lo3 1 0 (eL aH pH) (eL aH pH) [(eL aH pH)] (by kernel_rfl) (by kernel_rfl) hO (by kernel_rfl) (jN && (!(!x7))) (by kernel_rfl) (fun hb11 => rfl) ?_
    refine bS 8 ?_
    obtain ⟨x12, hx13, h1⟩ := aX h1
    refine gI [(21, true), (19, false)] 61 [(eL aH pH), (eL aH t14)] (eI x12) (jN && (!(!x7))) (by kernel_rfl) (by kernel_rfl) (by kernel_rfl) (fun hb14 => (ID pH t14 _ (fW hx13 hb14))) hO ?_
    intro H hO
    refine bS 15 ?_
    obtain ⟨x15, hx16, h1⟩ := aX h1
    refine gI [(28, false)] holds1_f (holds1_a ++ [(eL aD t15)] ++ holds1_c) (aK x15) (!((!x7) || (jN && (decide ((0 : Int) ≤ x12))))) (by kernel_rfl) (by kernel_rfl) (by kernel_rfl) (fun hb17 => (holds1_h t15 _ (fW hx16 hb17))) hO ?_
    intro H hO
    refine bF ?_
    refine bV [3, 8] [(33, (aK (((!x7) || (jN && (decide ((0 : Int) ≤ x12)))) || (!x15))))] ?_
    refine bJ h1 (fun h1 => ?_) (fun h1 => ?_)
    · refine aP ?_
      refine aU aG 1 ?_
      refine jP 0 lo1 1 0 (aK t4) (aK false) [(aK t4)] [(lo1, 1, [(aK false)]), (lo3, 1, [(eL aH pH)]), (lo4, 1, [(aK jN)])] hO rfl (by kernel_rfl) ?_
      intro H hO
      refine cQ ?_
      refine bV [7, 33] [] ?_
      refine bK ?_
      refine cX [(4, (.lp lo1 0 0)), (5, (.lp lo3 0 0)), (6, (.lp lo4 0 0))] ?_
      obtain rfl := oI h1
      exact aJ (aS (bR (⟨(gK hO hE ho1 .dead).1, rfl, _, rfl, (gK hO hE ho1 _).2⟩)))
    refine bL ?_
    refine bG [(4, (.lp lo1 0 0)), (5, (.lp lo3 0 0)), (6, (.lp lo4 0 0)), (7, (eL aH t14))] ?_
    refine aU aG 3 ?_
    refine bS 1 ?_
    refine jP 1 lo3 1 0 (eL aH pH) (eL aH t14) [(eL aH pH)] [(lo1, 1, [(aK t4)]), (lo3, 1, [(eL aH t14)]), (lo4, 1, [(aK jN)])] hO rfl (by kernel_rfl) ?_
    intro H hO
    refine jP 2 lo4 1 0 (aK jN) (aK true) [(aK jN)] [(lo1, 1, [(aK t4)]), (lo3, 1, [(eL aH t14)]), (lo4, 1, [(aK true)])] hO rfl (by kernel_rfl) ?_
    intro H hO
    refine cQ ?_
    refine cX [(4, (.lp lo1 0 0)), (5, (.lp lo3 0 0)), (6, (.lp lo4 0 0))] ?_
    obtain rfl := oI h1
    exact aJ (aW (⟨(gK hO hE ho1 .dead).1, rfl, _, rfl, (gK hO hE ho1 _).2⟩))
  · intro b lD19 lL H' G' hi hO
    rcases o0 with s | s
    · dsimp only [Sum.elim_inl] at hi
      obtain rfl := hi
      replace h0 : (some true) = some r := h0
      obtain ⟨hlL, hO⟩ := rJ hO
      refine ⟨_, _, hlL, (by intro e; cases e), ?_⟩
      refine cX [(4, (.lp lo1 0 0))] ?_
      replace hO := hO.pick (L' := [(lo1, 1, [(aK s.1)])]) [0] (by decide) (by kernel_rfl)
      refine aJ (aW (aI (?_)))
      refine aP ?_
      refine aU aG 1 ?_
      refine jP 0 lo1 1 0 (aK s.1) (aK true) [(aK s.1)] [(lo1, 1, [(aK true)])] hO rfl (by kernel_rfl) ?_
      intro H hO
      refine cQ ?_
      refine bG [(4, (.lp lo1 0 0))] ?_
      refine bK ?_
      obtain rfl := oI h0
      have hD := (hO.gm 0 _ rfl).2
      replace hO := (hO.xN .dead).xJ
      exact aJ (QM1 (.inr rfl) hD (rs := [.cell 4 4]) (xs := [(aK true)]) (x := (aK true)) (by kernel_rfl) (zT (lo := lo1) (k := 1) (y := (aK true)) (x := (aK true)) 0 hO (by kernel_rfl) (by kernel_rfl) (by kernel_rfl) (by kernel_rfl) sJ) (by kernel_rfl) ⟨rfl, hO.out⟩)
    · dsimp only [Sum.elim_inr] at hi
      obtain rfl := hi
      replace h0 : (some s.1) = some r := h0
      obtain ⟨hlL, hO⟩ := rJ hO
      refine ⟨_, _, hlL, (by intro e; cases e), ?_⟩
      refine bK ?_
      replace hO := hO.pick (L' := [(lo1, 1, [(aK s.1)])]) [0] (by decide) (by kernel_rfl)
      obtain rfl := oI h0
      have hD := (hO.gm 0 _ rfl).2
      replace hO := (hO.xN .dead).xJ
      exact aJ (bR (aS (QM1 (.inr rfl) hD (rs := [.cell 4 4]) (xs := [(aK s.1)]) (x := (aK s.1)) (by kernel_rfl) (zT (lo := lo1) (k := 1) (y := (aK s.1)) (x := (aK s.1)) 0 hO (by kernel_rfl) (by kernel_rfl) (by kernel_rfl) (by kernel_rfl) sJ) (by kernel_rfl) ⟨rfl, hO.out⟩)))

theorem MV (l0 : (List aC)) (r : Bool) (h0 : xK l0 = some r) : bY Tryz.prog 19 [(eL aE l0)] (aK r) := by
  intro H0
  refine cG Tryz.func19 ?_
  have hO := aM.start H0
  unfold xK at h0
  refine aZ aG 1 [] [] ?_
  refine aP ?_
  refine aU aG 3 ?_
  refine bS 1 ?_
  obtain ⟨x1, hx2, h0⟩ := aX h0
  refine cF (LG l0 44 [] [] (fun y0 => pJ y0) (fun y0 r h => DL y0 r h) _ hx2) hO ?_
  intro H hO
  refine bF ?_
  refine bG [(2, (aK x1))] ?_
  refine bK ?_
  obtain rfl := oI h0
  exact aJ (Q_r hO)

theorem VF (f0 : (List aB)) (r : Int) (h0 : vJ f0 = some r) : bY Tryz.prog 46 [(eL aD f0)] (eI r) := by
  intro H0
  refine cG Tryz.func46 ?_
  have hO := aM.start H0
  unfold vJ at h0
  refine aZ aG 1 [] [] ?_
  refine aP ?_
  refine aP ?_
  refine aU aG 8 ?_
  refine bS 1 ?_
  obtain ⟨x1, hx2, h0⟩ := aX h0
  refine cF (DL f0 _ hx2) hO ?_
  intro H hO
  refine bF ?_
  refine bV [] [(14, (aK ((!x1) || (decide ((lN f0) = (0 : Int))))))] ?_
  refine bJ h0 (fun h0 => ?_) (fun h0 => ?_)
  · refine bU aG 1 [(2, (eI (0 : Int)))] ?_
    refine bK ?_
    obtain rfl := oI h0
    exact aJ (aS (Q_r hO))
  refine bL ?_
  refine bG [(0, (eL aD f0))] ?_
  refine aZ aG 2 [] [(3, (eI (0 : Int))), (4, (eI (0 : Int)))] ?_
  refine cR (fun T H => ∃ v3 : Int, ∃ fG : Int, Has T [(0, (eL aD f0)), (3, (eI v3)), (4, (eI fG))] ∧ aM ⟨H0, [], []⟩ H [] ∧ qV f0 v3 fG = some r) ?_ ?_
  · clear hO h0
    rintro T H ⟨v3, fG, hT, hO, h0⟩
    refine bB hT ?_
    clear hT
    unfold qV at h0
    refine cR (fun T H => ∃ fG : Int, Has T [(4, (eI fG))] ∧ aM ⟨H0, [], []⟩ H [] ∧ uI fG = some r) ?_ ?_
    · clear hO h0
      rintro T H ⟨fG, hT, hO, h0⟩
      refine bB hT ?_
      clear hT
      unfold uI at h0
      refine bU aG 2 [(2, (eI fG))] ?_
      refine bK ?_
      obtain rfl := oI h0
      exact aJ (Q_r hO)
    refine aZ aG 3 [0] [(24, (eL aD f0)), (25, (eI (lN f0))), (26, (eI (0 : Int)))] ?_
    refine bT 0 ?_
    refine cT [(3, (eI v3)), (4, (eI fG)), (24, (eL aD f0)), (25, (eI (lN f0))), (26, (eI (0 : Int)))] ?_
    refine cH (fun T H => ∃ v3 : Int, ∃ fG : Int, ∃ t24 : (List aB), ∃ t25 : Int, ∃ t26 : Int, Has T [(3, (eI v3)), (4, (eI fG)), (24, (eL aD t24)), (25, (eI t25)), (26, (eI t26))] ∧ aM ⟨H0, [], []⟩ H [] ∧ uB v3 fG t24 t25 t26 = some r) ?_ ⟨v3, fG, f0, (lN f0), (0 : Int), .eq (by kernel_rfl), hO, h0⟩
    clear hO h0
    rintro T H ⟨v3, fG, t24, t25, t26, hT, hO, h0⟩
    refine bB hT ?_
    clear hT
    unfold uB at h0
    obtain ⟨rr0, hl0, h0⟩ := aX h0
    refine bZ (by kernel_rfl) (fun (s : Int × Int × Int) T H => Has T [(3, (eI s.1)), (4, (eI s.2.1)), (24, (eL aD t24)), (25, (eI t25)), (26, (eI s.2.2))] ∧ aM ⟨H0, [], []⟩ H []) hl0 ⟨.eq (by kernel_rfl), hO⟩ ?_
    clear hO
    rintro k0 s out1 T H ⟨hT, hO⟩ h1 ho0
    obtain ⟨v3, fG, t26⟩ := s
    replace h1 : nC t24 t25 v3 fG t26 = some out1 := h1
    try dsimp only at hT
    refine bB hT ?_
    clear hT
    unfold nC at h1
    refine aZ aG 1 [] [(27, (aK (decide (t26 < t25))))] ?_
    refine aP ?_
    refine bJ h1 (fun h1 => ?_) (fun h1 => ?_)
    · refine bL ?_
      refine bG [(3, (eI v3)), (4, (eI fG)), (24, (eL aD t24)), (25, (eI t25)), (26, (eI t26))] ?_
      refine aP ?_
      refine bT 1 ?_
      refine aP ?_
      refine aU aG 4 ?_
      obtain ⟨c6, h1⟩ := bH h1
      refine mA 2 [0 ≤ t26 ∧ t26 < (lN t24)] ⟨c6, trivial⟩ ?_
      refine mV 2 (aD (aB.mk 0 0)) (by kernel_rfl) (by kernel_rfl) hO ?_
      intro lo7 H hO
      refine jP 0 lo7 2 0 (aD (aB.mk 0 0)) (aD (gD t24 t26)) [(aD (aB.mk 0 0))] [(lo7, 2, [(aD (gD t24 t26))])] hO rfl (by kernel_rfl) ?_
      intro H hO
      refine cQ ?_
      refine bV [] [(6, (.lp lo7 0 0))] ?_
      refine aP ?_
      refine aU aG 5 ?_
      refine bS 2 ?_
      refine jZ 0 lo7 2 0 (aD (gD t24 t26)) (eI ((gD t24 t26).Net)) [(aD (gD t24 t26))] hO rfl ?_
      refine bF ?_
      replace hO := hO.pick (L' := []) [] (by decide) (by kernel_rfl)
      refine bV [3, 6] [(3, (eI (wR (v3 + ((gD t24 t26).Net)))))] ?_
      refine aU aG 4 ?_
      refine bF ?_
      refine cX [(3, (eI (wR (v3 + ((gD t24 t26).Net))))), (4, (eI (if (wR (v3 + ((gD t24 t26).Net))) < fG then (wR (v3 + ((gD t24 t26).Net))) else fG))), (24, (eL aD t24)), (25, (eI t25)), (26, (eI t26))] ?_
      refine aJ (aW (aI (?_)))
      refine aU aG 2 ?_
      refine bF ?_
      exact aJ (aI (⟨rfl, _, (oI h1).symm, .eq (by kernel_rfl), hO⟩))
    refine cY 0 ?_
    obtain rfl := oI h1
    obtain rfl : _ = rr0 := ho0
    replace h0 : uI fG = some r := h0
    exact aJ (aT (aT (bO (aI (⟨rfl, _, .eq (by kernel_rfl), hO, h0⟩)))))
  refine aP ?_
  refine aU aG 5 ?_
  obtain ⟨c8, h0⟩ := bH h0
  refine tJ [0 ≤ (0 : Int) ∧ (0 : Int) < (lN f0)] ⟨c8, trivial⟩ ?_
  refine bV [] [(19, (aK (decide (((gD f0 (0 : Int)).At) = (-1 : Int)))))] ?_
  refine bJ h0 (fun h0 => ?_) (fun h0 => ?_)
  · refine aU aG 5 ?_
    obtain ⟨c10, h0⟩ := bH h0
    refine tJ [0 ≤ (0 : Int) ∧ (0 : Int) < (lN f0)] ⟨c10, trivial⟩ ?_
    exact aJ (aI (⟨rfl, _, _, .eq (by kernel_rfl), hO, h0⟩))
  refine bL ?_
  exact aJ (aI (⟨rfl, _, _, .eq (by kernel_rfl), hO, h0⟩))

theorem PL (f0 : (List aB)) (r : Bool) (h0 : sR f0 = some r) : bY Tryz.prog 45 [(eL aD f0)] (aK r) := by
  intro H0
  refine cG Tryz.func45 ?_
  have hO := aM.start H0
  unfold sR at h0
  refine aZ aG 1 [] [] ?_
  refine aP ?_
  refine aU aG 8 ?_
  refine bS 1 ?_
  obtain ⟨x1, hx2, h0⟩ := aX h0
  refine cF (DL f0 _ hx2) hO ?_
  intro H hO
  refine bS 4 ?_
  obtain ⟨x4, hx5, h0⟩ := aX h0
  refine gI [(5, true)] 46 [(eL aD f0)] (eI x4) x1 (by kernel_rfl) (by kernel_rfl) (by kernel_rfl) (fun hb6 => (VF f0 _ (fW hx5 hb6))) hO ?_
  intro H hO
  refine bF ?_
  refine bG [(2, (aK (x1 && (decide ((0 : Int) ≤ x4)))))] ?_
  refine bK ?_
  obtain rfl := oI h0
  exact aJ (Q_r hO)

theorem TJ (l0 : (List aC)) (r : Bool) (h0 : wJ l0 = some r) : bY Tryz.prog 20 [(eL aE l0)] (aK r) := by
  intro H0
  refine cG Tryz.func20 ?_
  have hO := aM.start H0
  unfold wJ at h0
  refine aZ aG 1 [] [] ?_
  refine aP ?_
  refine aU aG 3 ?_
  refine bS 1 ?_
  obtain ⟨x1, hx2, h0⟩ := aX h0
  refine cF (LG l0 45 [] [] (fun y0 => sR y0) (fun y0 r h => PL y0 r h) _ hx2) hO ?_
  intro H hO
  refine bF ?_
  refine bG [(2, (aK x1))] ?_
  refine bK ?_
  obtain rfl := oI h0
  exact aJ (Q_r hO)

theorem HZ (l0 : (List aC)) (r : (List aC)) (h0 : qP l0 = some r) : bY Tryz.prog 21 [(eL aE l0)] (.fn (.func 47) [] [(.rp (eL aE r))]) := by
  intro H0
  refine cG Tryz.func21 ?_
  have hO := aM.start H0
  unfold qP at h0
  refine aP ?_
  refine aU aG 2 ?_
  refine fS 1 (eL aE l0) (by kernel_rfl) (by kernel_rfl) ?_
  refine bF ?_
  refine bG [(1, (.rp (eL aE l0)))] ?_
  refine bU aG 2 [(2, (.fn (.func 47) [] [(.rp (eL aE l0))]))] ?_
  refine bK ?_
  obtain rfl := oI h0
  exact aJ (rK (x := (.fn (.func 47) [] [(.rp (eL aE l0))])) (by kernel_rfl) (aV.refl _) ⟨rfl, hO.out⟩)

theorem CZ {σ : Type} (I : σ → Gs → Prop) (yield0_b : Nat) (eR : σ → (List aF) → (List aB) → Option (σ × Bool)) (yield0_h : ∀ st a0 a1 st2 r, eR st a0 a1 = some (st2, r) → KJ Tryz.prog (yv yield0_b) I st [(eL aH a0), (eL aD a1)] st2 (aK r)) (t1 : (List aC)) (sg0 : σ) (r : σ) (h0 : nA eR t1 sg0 = some r) : DD Tryz.prog 47 I sg0 [(yv yield0_b), (.rp (eL aE t1))] r (.tup []) := by
  intro H0 G0 hI hg
  refine GI aG Tryz.func47 (by kernel_rfl) (by kernel_rfl) (by kernel_rfl) ?_
  obtain ⟨G, hO, hI⟩ : ∃ G, aM ⟨H0, List.map (fun p : Nat × dF => p.1) G0, G⟩ H0 [] ∧ I sg0 G := ⟨G0, aM.NR hg, hI⟩
  clear hg
  unfold nA at h0
  refine aP ?_
  refine aU aG 1 ?_
  refine fS 1 (yv yield0_b) (by kernel_rfl) (by kernel_rfl) ?_
  refine cQ ?_
  refine bV [0] [(2, (.rp (yv yield0_b)))] ?_
  refine aP ?_
  refine aP ?_
  refine aU aG 3 ?_
  refine bS 1 ?_
  obtain ⟨x1, hx2, h0⟩ := aX h0
  refine cF (MV t1 _ hx2) hO ?_
  intro H hO
  refine bF ?_
  refine bV [] [(7, (aK (!x1)))] ?_
  refine bJ h0 (fun h0 => ?_) (fun h0 => ?_)
  · refine bK ?_
    obtain rfl := oI h0
    exact aJ (aS (QM0 (.inr rfl) (rs := []) (xs := []) (x := (.tup [])) (by kernel_rfl) sJ (by kernel_rfl) ⟨rfl, G, hI, hO.JP⟩))
  refine bL ?_
  refine bG [(1, (.rp (eL aE t1))), (2, (.rp (yv yield0_b)))] ?_
  refine aP ?_
  refine aU aG 2 ?_
  refine bS 1 ?_
  obtain ⟨x5, hx6, h0⟩ := aX h0
  refine cF (FV t1 _ hx6) hO ?_
  intro H hO
  refine cQ ?_
  refine bV [1] [(9, (.fn (.func 75) [] [(.rp (eL aE x5))]))] ?_
  refine bT 0 ?_
  refine cT [(2, (.rp (yv yield0_b))), (9, (.fn (.func 75) [] [(.rp (eL aE x5))]))] ?_
  refine cH (fun T H => ∃ sg : σ, ∃ t9c0 : (List aC), ∃ G : Gs, Has T [(2, (.rp (yv yield0_b))), (9, (.fn (.func 75) [] [(.rp (eL aE t9c0))]))] ∧ aM ⟨H0, List.map (fun p : Nat × dF => p.1) G0, G⟩ H [] ∧ I sg G ∧ rI eR sg t9c0 = some r) ?_ ⟨sg0, x5, G, .eq (by kernel_rfl), hO, hI, h0⟩
  clear hO hI h0
  rintro T H ⟨sg, t9c0, G, hT, hO, hI, h0⟩
  refine bB (l := [(2, (.rp (yv yield0_b))), (9, (.fn (.func 75) [] [(.rp (eL aE t9c0))]))]) hT ?_
  clear hT
  unfold rI at h0
  obtain ⟨o0, hl0, h0⟩ := aX h0
  refine EE (fid := 75) (ys := []) (cs := [(.rp (eL aE t9c0))]) #[10, 11] (fun (A : BW) (b lL : Nat) (st : (σ) ⊕ (σ)) (G' : Gs) => Sum.elim (fun (s : σ) => ∃ G : Gs, I s G ∧ G' = (lL, .raw (kM b A .ready none)) :: (up [] ++ G)) (fun (s : σ) => ∃ G : Gs, I s G ∧ G' = (lL, .raw (kM b A .done (some .ret))) :: (up [] ++ G)) st) (.inl sg) o0 (.tup []) (by kernel_rfl) (by kernel_rfl) (by kernel_rfl) hO (fun _ _ => ⟨G, hI, rfl⟩) ?_ ?_
  · intro b lL
    clear hO hI h0
    refine BG _ b (fun st t10 t11 => rnd (fun (s : σ) => jQ eR t9c0 s t10 t11) st) ?_ t9c0 _ _ hl0
    intro st t10 t11 out1 rr hr
    obtain ⟨s, rfl, h1, rfl⟩ := SL hr
    clear hr
    intro Hr Gr hi hg
    obtain ⟨sg, rfl⟩ : ∃ x, x = s := ⟨_, rfl⟩
    dsimp only [Sum.elim_inl] at hi
    obtain ⟨G, hI, rfl⟩ := hi
    replace h1 : jQ eR t9c0 sg t10 t11 = some out1 := h1
    unfold jQ at h1
    obtain ⟨E1, hE, hO⟩ := yA hg
    refine yF (EA (hO.gm 0 _ rfl).2 (by kernel_rfl) (by kernel_rfl) ?_)
    refine cT [(2, (.rp (yv yield0_b))), (9, (.fn (.func 75) [] [(.rp (eL aE t9c0))])), (10, (eL aH t10)), (11, (eL aD t11))] ?_
    refine aZ aG 1 [9, 10] [(3, (eL aH t10))] ?_
    refine aU aG 1 ?_
    refine bF ?_
    refine cX [(2, (.rp (yv yield0_b))), (3, (eL aH t10)), (4, (eL aD t11))] ?_
    refine aJ (⟨rfl, rfl, (hO.gm 0 _ rfl).2, ?_⟩)
    intro o1 ho1
    replace hO := hO.xN o1
    refine bT 1 ?_
    refine aP ?_
    refine aU aG 5 ?_
    refine bS 3 ?_
    obtain ⟨x7, hx8, h1⟩ := aX h1
    refine aBv (I := I) (yv yield0_b) [(eL aH t10), (eL aD t11)] (aK x7.2) (by kernel_rfl) (by kernel_rfl) (yield0_h _ t10 t11 x7.1 x7.2 hx8) hO hI ?_
    intro G H hO hI
    refine bF ?_
    refine bG [(16, (aK (!x7.2)))] ?_
    refine bJ h1 (fun h1 => ?_) (fun h1 => ?_)
    · refine bK ?_
      refine cX [] ?_
      obtain rfl := oI h1
      exact aJ (bR (⟨(gK hO hE ho1 .dead).1, rfl, _, ⟨G, hI, rfl⟩, (gK hO hE ho1 _).2⟩))
    refine bL ?_
    refine cX [] ?_
    obtain rfl := oI h1
    exact aJ (aW (⟨(gK hO hE ho1 .dead).1, rfl, _, ⟨G, hI, rfl⟩, (gK hO hE ho1 _).2⟩))
  · intro b lD10 lL H' G' hi hO
    rcases o0 with s | s
    · dsimp only [Sum.elim_inl] at hi
      obtain ⟨G, hI, rfl⟩ := hi
      replace h0 : (some s) = some r := h0
      obtain ⟨hlL, hO⟩ := rJ hO
      refine ⟨_, _, hlL, (by intro e; cases e), ?_⟩
      obtain rfl := oI h0
      have hD := (hO.gm 0 _ rfl).2
      replace hO := (hO.xN .dead).xJ
      exact aJ (aW (QM1 (.inl rfl) hD (rs := []) (xs := []) (x := (.tup [])) (by kernel_rfl) sJ (by kernel_rfl) ⟨rfl, G, hI, hO.JP⟩))
    · dsimp only [Sum.elim_inr] at hi
      obtain ⟨G, hI, rfl⟩ := hi
      replace h0 : (some s) = some r := h0
      obtain ⟨hlL, hO⟩ := rJ hO
      refine ⟨_, _, hlL, (by intro e; cases e), ?_⟩
      refine bK ?_
      obtain rfl := oI h0
      have hD := (hO.gm 0 _ rfl).2
      replace hO := (hO.xN .dead).xJ
      exact aJ (bR (QM1 (.inr rfl) hD (rs := []) (xs := []) (x := (.tup [])) (by kernel_rfl) sJ (by kernel_rfl) ⟨rfl, G, hI, hO.JP⟩))

theorem KZ (f0 : (List aB)) (r : Int) (h0 : rV f0 = some r) : bY Tryz.prog 22 [(eL aD f0)] (eI r) := by
  intro H0
  refine cG Tryz.func22 ?_
  have hO := aM.start H0
  unfold rV at h0
  refine aZ aG 1 [] [] ?_
  refine aZ aG 1 [] [(3, (eI (0 : Int)))] ?_
  refine cR (fun T H => ∃ n3 : Int, Has T [(3, (eI n3))] ∧ aM ⟨H0, [], []⟩ H [] ∧ wC n3 = some r) ?_ ?_
  · clear hO h0
    rintro T H ⟨n3, hT, hO, h0⟩
    refine bB hT ?_
    clear hT
    unfold wC at h0
    refine bU aG 2 [(2, (eI n3))] ?_
    refine bK ?_
    obtain rfl := oI h0
    exact aJ (Q_r hO)
  refine aZ aG 3 [0] [(6, (eL aD f0)), (7, (eI (lN f0))), (8, (eI (0 : Int)))] ?_
  refine bT 0 ?_
  refine cT [(3, (eI (0 : Int))), (6, (eL aD f0)), (7, (eI (lN f0))), (8, (eI (0 : Int)))] ?_
  refine cH (fun T H => ∃ n3 : Int, ∃ t6 : (List aB), ∃ t7 : Int, ∃ t8 : Int, Has T [(3, (eI n3)), (6, (eL aD t6)), (7, (eI t7)), (8, (eI t8))] ∧ aM ⟨H0, [], []⟩ H [] ∧ AT n3 t6 t7 t8 = some r) ?_ ⟨(0 : Int), f0, (lN f0), (0 : Int), .eq (by kernel_rfl), hO, h0⟩
  clear hO h0
  rintro T H ⟨n3, t6, t7, t8, hT, hO, h0⟩
  refine bB hT ?_
  clear hT
  unfold AT at h0
  obtain ⟨rr0, hl0, h0⟩ := aX h0
  refine bZ (by kernel_rfl) (fun (s : Int × Int) T H => Has T [(3, (eI s.1)), (6, (eL aD t6)), (7, (eI t7)), (8, (eI s.2))] ∧ aM ⟨H0, [], []⟩ H []) hl0 ⟨.eq (by kernel_rfl), hO⟩ ?_
  clear hO
  rintro k0 s out1 T H ⟨hT, hO⟩ h1 ho0
  obtain ⟨n3, t8⟩ := s
  replace h1 : oO t6 t7 n3 t8 = some out1 := h1
  try dsimp only at hT
  refine bB hT ?_
  clear hT
  unfold oO at h1
  refine aZ aG 1 [] [(9, (aK (decide (t8 < t7))))] ?_
  refine aP ?_
  refine bJ h1 (fun h1 => ?_) (fun h1 => ?_)
  · refine bL ?_
    refine bG [(3, (eI n3)), (6, (eL aD t6)), (7, (eI t7)), (8, (eI t8))] ?_
    refine aP ?_
    refine bT 1 ?_
    refine aP ?_
    refine aU aG 4 ?_
    obtain ⟨c2, h1⟩ := bH h1
    refine mA 2 [0 ≤ t8 ∧ t8 < (lN t6)] ⟨c2, trivial⟩ ?_
    refine mV 2 (aD (aB.mk 0 0)) (by kernel_rfl) (by kernel_rfl) hO ?_
    intro lo3 H hO
    refine jP 0 lo3 2 0 (aD (aB.mk 0 0)) (aD (gD t6 t8)) [(aD (aB.mk 0 0))] [(lo3, 2, [(aD (gD t6 t8))])] hO rfl (by kernel_rfl) ?_
    intro H hO
    refine cQ ?_
    refine bV [] [(5, (.lp lo3 0 0))] ?_
    refine aU aG 6 ?_
    refine bS 2 ?_
    refine jZ 0 lo3 2 0 (aD (gD t6 t8)) (eI ((gD t6 t8).Net)) [(aD (gD t6 t8))] hO rfl ?_
    refine bF ?_
    refine cX [(3, (eI (wR (n3 + (if (0 : Int) > ((gD t6 t8).Net) then (0 : Int) else ((gD t6 t8).Net)))))), (6, (eL aD t6)), (7, (eI t7)), (8, (eI t8))] ?_
    replace hO := hO.pick (L' := []) [] (by decide) (by kernel_rfl)
    refine aJ (aW (aI (?_)))
    refine aU aG 2 ?_
    refine bF ?_
    exact aJ (aI (⟨rfl, _, (oI h1).symm, .eq (by kernel_rfl), hO⟩))
  refine cY 0 ?_
  obtain rfl := oI h1
  obtain rfl : _ = rr0 := ho0
  replace h0 : wC n3 = some r := h0
  exact aJ (aT (aT (bO (aI (⟨rfl, _, .eq (by kernel_rfl), hO, h0⟩)))))

theorem CM (t0 : Int) (lo1p : Nat) (lo1q : Nat) (t1 : (List aR)) (lo2p : Nat) (t2 : Int) (r : ((List aR) × Int)) (h0 : mH t0 t1 t2 = some r) : MT Tryz.prog 49 [(eI t0), (.lp lo1p 0 0), (.lp lo2p 0 0)] [(lo1p, 1, [(.msl 2 lo1q 0 (List.length t1))]), (lo1q, 2, List.map bE t1), (lo2p, 1, [(eI t2)])] (fun x L => ∃ lo1n : Nat, x = (.tup []) ∧ L = [(lo1p, 1, [(.msl 2 lo1n 0 (List.length r.1))]), (lo1n, 2, List.map bE r.1), (lo2p, 1, [(eI r.2)])]) := by
  intro F H0 hO
  obtain ⟨Fh, Fe, Fg⟩ := F
  refine cG Tryz.func49 ?_
  unfold mH at h0
  refine aP ?_
  refine aU aG 6 ?_
  refine jZ 0 lo1p 1 0 (.msl 2 lo1q 0 (List.length t1)) (.msl 2 lo1q 0 (List.length t1)) [(.msl 2 lo1q 0 (List.length t1))] hO rfl ?_
  refine jZ 2 lo2p 1 0 (eI t2) (eI t2) [(eI t2)] hO rfl ?_
  obtain ⟨c1, h0⟩ := bH h0
  refine mA 5 [0 ≤ t2 ∧ t2 < (lN t1)] ⟨c1, trivial⟩ ?_
  refine jP 1 lo1q 2 (0 + Int.toNat t2) (bE (gD t1 t2)) (bE (aR.mk (gD t1 t2).From t0)) (List.map bE t1) [(lo1p, 1, [(.msl 2 lo1q 0 (List.length t1))]), (lo1q, 2, List.map bE (List.set t1 (Int.toNat t2) (aR.mk (gD t1 t2).From t0))), (lo2p, 1, [(eI t2)])] hO (cU c1) (by simp only [List.set, oP]) ?_
  intro H hO
  refine cQ ?_
  replace hO : aM ⟨Fh, Fe, Fg⟩ H [(lo1p, 1, [(.msl 2 lo1q 0 (List.length (List.set t1 (Int.toNat t2) (aR.mk (gD t1 t2).From t0))))]), (lo1q, 2, List.map bE (List.set t1 (Int.toNat t2) (aR.mk (gD t1 t2).From t0))), (lo2p, 1, [(eI t2)])] := by simpa only [List.length_set] using hO
  refine bV [0] [] ?_
  refine aU aG 3 ?_
  refine jZ 2 lo2p 1 0 (eI t2) (eI t2) [(eI t2)] hO rfl ?_
  refine bS 2 ?_
  refine jP 2 lo2p 1 0 (eI t2) (eI (wR (t2 + (1 : Int)))) [(eI t2)] [(lo1p, 1, [(.msl 2 lo1q 0 (List.length (List.set t1 (Int.toNat t2) (aR.mk (gD t1 t2).From t0))))]), (lo1q, 2, List.map bE (List.set t1 (Int.toNat t2) (aR.mk (gD t1 t2).From t0))), (lo2p, 1, [(eI (wR (t2 + (1 : Int))))])] hO rfl (by kernel_rfl) ?_
  intro H hO
  refine cQ ?_
  obtain rfl := oI h0
  exact aJ (aDw hO ⟨lo1q, rfl, rfl⟩)

theorem SV (f0 : (List aB)) (r : (List aR)) (h0 : vK f0 = some r) : bY Tryz.prog 23 [(eL aD f0)] (eL bE r) := by
  intro H0
  refine cG Tryz.func23 ?_
  have hO := aM.start H0
  unfold vK at h0
  refine aZ aG 1 [] [] ?_
  refine aP ?_
  refine aU aG 5 ?_
  refine bS 1 ?_
  obtain ⟨x1, hx2, h0⟩ := aX h0
  refine cF (KZ f0 _ hx2) hO ?_
  intro H hO
  obtain ⟨c4, h0⟩ := bH h0
  refine KL 2 16 x1 (by kernel_rfl) (by kernel_rfl) c4 hO ?_
  intro lo5 H hO
  refine tG 1 (.sl true 0 (fun _ => .bad)) (eL bE ([])) (by kernel_rfl) (by kernel_rfl) (by kernel_rfl) (eD) (by kernel_rfl) (by kernel_rfl) hO ?_
  intro lo6 H hO
  refine jP 1 lo6 1 0 (eL bE ([])) (.msl 2 lo5 0 (List.length ([] : List aR))) [(eL bE ([]))] [(lo5, 2, List.map bE ([] : List aR)), (lo6, 1, [(.msl 2 lo5 0 (List.length ([] : List aR)))])] hO rfl (by kernel_rfl) ?_
  intro H hO
  refine cQ ?_
  replace hO := hO.pick (L' := [(lo6, 1, [(.msl 2 lo5 0 (List.length ([] : List aR)))]), (lo5, 2, List.map bE ([] : List aR))]) [1, 0] (by decide) (by kernel_rfl)
  refine bV [] [(3, (.lp lo6 0 0))] ?_
  refine aP ?_
  refine aU aG 2 ?_
  refine mV 1 (eI 0) (by kernel_rfl) (by kernel_rfl) hO ?_
  intro lo7 H hO
  refine jP 2 lo7 1 0 (eI 0) (eI (0 : Int)) [(eI 0)] [(lo6, 1, [(.msl 2 lo5 0 (List.length ([] : List aR)))]), (lo5, 2, List.map bE ([] : List aR)), (lo7, 1, [(eI (0 : Int))])] hO rfl (by kernel_rfl) ?_
  intro H hO
  refine cQ ?_
  refine bV [] [(4, (.lp lo7 0 0))] ?_
  refine aZ aG 2 [] [(5, (.fn (.func 49) [] [(.lp lo6 0 0), (.lp lo7 0 0)]))] ?_
  refine cR (fun T H => ∃ out3 : List aR, ∃ cE : Int, ∃ lo8 : Nat, Has T [(3, (.lp lo6 0 0)), (4, (.lp lo7 0 0)), (5, (.fn (.func 49) [] [(.lp lo6 0 0), (.lp lo7 0 0)]))] ∧ aM ⟨H0, [], []⟩ H [(lo6, 1, [(.msl 2 lo8 0 (List.length out3))]), (lo8, 2, List.map bE out3), (lo7, 1, [(eI cE)])] ∧ uL out3 cE = some r) ?_ ?_
  · clear hO h0
    rintro T H ⟨out3, cE, lo8, hT, hO, h0⟩
    refine bB hT ?_
    clear hT
    unfold uL at h0
    refine cR (fun T H => ∃ out3 : List aR, ∃ lo9 : Nat, Has T [(3, (.lp lo6 0 0))] ∧ aM ⟨H0, [], []⟩ H [(lo6, 1, [(.msl 2 lo9 0 (List.length out3))]), (lo9, 2, List.map bE out3)] ∧ yP out3 = some r) ?_ ?_
    · clear hO h0
      rintro T H ⟨out3, lo9, hT, hO, h0⟩
      refine bB hT ?_
      clear hT
      unfold yP at h0
      refine aP ?_
      refine aU aG 2 ?_
      refine jZ 0 lo6 1 0 (.msl 2 lo9 0 (List.length out3)) (.msl 2 lo9 0 (List.length out3)) [(.msl 2 lo9 0 (List.length out3))] hO rfl ?_
      refine bF ?_
      refine cX [(2, (.msl 2 lo9 0 (List.length out3)))] ?_
      replace hO := hO.pick (L' := [(lo9, 2, List.map bE out3)]) [1] (by decide) (by kernel_rfl)
      refine aJ (aI (?_))
      refine bK ?_
      refine cX [(2, (.msl 2 lo9 0 (List.length out3)))] ?_
      refine vP (en := bE) out3 0 0 2 2 lo9 (List.length out3) hO (by kernel_rfl) (by kernel_rfl) (by kernel_rfl) (L' := []) (by kernel_rfl) ?_
      intro H10 hO
      obtain rfl := oI h0
      exact aJ (Q_r hO)
    refine bT 6 ?_
    refine cT [(3, (.lp lo6 0 0)), (4, (.lp lo7 0 0)), (5, (.fn (.func 49) [] [(.lp lo6 0 0), (.lp lo7 0 0)]))] ?_
    refine cH (fun T H => ∃ out3 : List aR, ∃ cE : Int, ∃ lo12 : Nat, Has T [(3, (.lp lo6 0 0)), (4, (.lp lo7 0 0)), (5, (.fn (.func 49) [] [(.lp lo6 0 0), (.lp lo7 0 0)]))] ∧ aM ⟨H0, [], []⟩ H [(lo6, 1, [(.msl 2 lo12 0 (List.length out3))]), (lo12, 2, List.map bE out3), (lo7, 1, [(eI cE)])] ∧ zD out3 cE = some r) ?_ ⟨out3, cE, lo8, .eq (by kernel_rfl), hO, h0⟩
    clear hO h0
    rintro T H ⟨out3, cE, lo12, hT, hO, h0⟩
    refine bB hT ?_
    clear hT
    unfold zD at h0
    obtain ⟨rr0, hl0, h0⟩ := aX h0
    refine bZ (by kernel_rfl) (fun (s : List aR × Int) T H => ∃ lo12 : Nat, Has T [(3, (.lp lo6 0 0)), (4, (.lp lo7 0 0)), (5, (.fn (.func 49) [] [(.lp lo6 0 0), (.lp lo7 0 0)]))] ∧ aM ⟨H0, [], []⟩ H [(lo6, 1, [(.msl 2 lo12 0 (List.length s.1))]), (lo12, 2, List.map bE s.1), (lo7, 1, [(eI s.2)])]) hl0 ⟨lo12, .eq (by kernel_rfl), hO⟩ ?_
    clear hO
    rintro k0 s out1 T H ⟨lo12, hT, hO⟩ h1 ho0
    obtain ⟨out3, cE⟩ := s
    replace h1 : lT out3 cE = some out1 := h1
    try dsimp only at hT
    refine bB hT ?_
    clear hT
    unfold lT at h1
    refine aP ?_
    refine aP ?_
    refine aU aG 4 ?_
    refine jZ 2 lo7 1 0 (eI cE) (eI cE) [(eI cE)] hO rfl ?_
    refine jZ 0 lo6 1 0 (.msl 2 lo12 0 (List.length out3)) (.msl 2 lo12 0 (List.length out3)) [(.msl 2 lo12 0 (List.length out3))] hO rfl ?_
    refine bF ?_
    refine bV [] [(43, (aK (decide (cE < (lN out3)))))] ?_
    refine bJ h1 (fun h1 => ?_) (fun h1 => ?_)
    · refine bL ?_
      refine bG [(3, (.lp lo6 0 0)), (4, (.lp lo7 0 0)), (5, (.fn (.func 49) [] [(.lp lo6 0 0), (.lp lo7 0 0)]))] ?_
      refine bT 7 ?_
      refine aU aG 2 ?_
      refine bS 1 ?_
      obtain ⟨x14, hx15, h1⟩ := aX h1
      refine aCL [] [0, 1, 2] (CM (1125899906842624 : Int) lo6 lo12 out3 lo7 cE _ hx15) hO ?_
      intro r17 L18 H hP19 hO
      obtain ⟨lo16, rfl, rfl⟩ := hP19
      replace hO : aM ⟨H0, [], []⟩ H [(lo6, 1, [(.msl 2 lo16 0 (List.length x14.1))]), (lo16, 2, List.map bE x14.1), (lo7, 1, [(eI x14.2)])] := hO
      refine cQ ?_
      exact aJ (aW (aI (⟨rfl, _, (oI h1).symm, _, .eq (by kernel_rfl), hO⟩)))
    refine cY 6 ?_
    replace hO := hO.pick (L' := [(lo6, 1, [(.msl 2 lo12 0 (List.length out3))]), (lo12, 2, List.map bE out3)]) [0, 1] (by decide) (by kernel_rfl)
    obtain rfl := oI h1
    obtain rfl : _ = rr0 := ho0
    replace h0 : yP out3 = some r := h0
    exact aJ (aT (aT (bO (aI (⟨rfl, _, _, .eq (by kernel_rfl), hO, h0⟩)))))
  refine bU aG 3 [(3, (.lp lo6 0 0)), (4, (.lp lo7 0 0)), (5, (.fn (.func 49) [] [(.lp lo6 0 0), (.lp lo7 0 0)])), (12, (eL aD f0)), (13, (eI (lN f0))), (14, (eI (0 : Int)))] ?_
  refine bT 0 ?_
  refine cT [(3, (.lp lo6 0 0)), (4, (.lp lo7 0 0)), (5, (.fn (.func 49) [] [(.lp lo6 0 0), (.lp lo7 0 0)])), (12, (eL aD f0)), (13, (eI (lN f0))), (14, (eI (0 : Int)))] ?_
  refine cH (fun T H => ∃ out3 : List aR, ∃ cE : Int, ∃ t12 : (List aB), ∃ t13 : Int, ∃ t14 : Int, ∃ lo21 : Nat, Has T [(3, (.lp lo6 0 0)), (4, (.lp lo7 0 0)), (5, (.fn (.func 49) [] [(.lp lo6 0 0), (.lp lo7 0 0)])), (12, (eL aD t12)), (13, (eI t13)), (14, (eI t14))] ∧ aM ⟨H0, [], []⟩ H [(lo6, 1, [(.msl 2 lo21 0 (List.length out3))]), (lo21, 2, List.map bE out3), (lo7, 1, [(eI cE)])] ∧ yT out3 cE t12 t13 t14 = some r) ?_ ⟨([] : List aR), (0 : Int), f0, (lN f0), (0 : Int), lo5, .eq (by kernel_rfl), hO, h0⟩
  clear hO h0
  rintro T H ⟨out3, cE, t12, t13, t14, lo21, hT, hO, h0⟩
  refine bB hT ?_
  clear hT
  unfold yT at h0
  obtain ⟨rr0, hl0, h0⟩ := aX h0
  refine bZ (by kernel_rfl) (fun (s : List aR × Int × Int) T H => ∃ lo21 : Nat, Has T [(3, (.lp lo6 0 0)), (4, (.lp lo7 0 0)), (5, (.fn (.func 49) [] [(.lp lo6 0 0), (.lp lo7 0 0)])), (12, (eL aD t12)), (13, (eI t13)), (14, (eI s.2.2))] ∧ aM ⟨H0, [], []⟩ H [(lo6, 1, [(.msl 2 lo21 0 (List.length s.1))]), (lo21, 2, List.map bE s.1), (lo7, 1, [(eI s.2.1)])]) hl0 ⟨lo21, .eq (by kernel_rfl), hO⟩ ?_
  clear hO
  rintro k0 s out1 T H ⟨lo21, hT, hO⟩ h1 ho0
  obtain ⟨out3, cE, t14⟩ := s
  replace h1 : nD t12 t13 out3 cE t14 = some out1 := h1
  try dsimp only at hT
  refine bB hT ?_
  clear hT
  unfold nD at h1
  refine aZ aG 1 [] [(15, (aK (decide (t14 < t13))))] ?_
  refine aP ?_
  refine bJ h1 (fun h1 => ?_) (fun h1 => ?_)
  · refine bL ?_
    refine bG [(3, (.lp lo6 0 0)), (4, (.lp lo7 0 0)), (5, (.fn (.func 49) [] [(.lp lo6 0 0), (.lp lo7 0 0)])), (12, (eL aD t12)), (13, (eI t13)), (14, (eI t14))] ?_
    refine cR (fun T H => ∃ out3 : List aR, ∃ cE : Int, ∃ lo23 : Nat, Has T [(3, (.lp lo6 0 0)), (4, (.lp lo7 0 0)), (5, (.fn (.func 49) [] [(.lp lo6 0 0), (.lp lo7 0 0)])), (12, (eL aD t12)), (13, (eI t13)), (14, (eI t14))] ∧ aM ⟨H0, [], []⟩ H [(lo6, 1, [(.msl 2 lo23 0 (List.length out3))]), (lo23, 2, List.map bE out3), (lo7, 1, [(eI cE)])] ∧ uJ out3 cE t12 t13 t14 = some out1) ?_ ?_
    · clear hO h1
      rintro T H ⟨out3, cE, lo23, hT, hO, h1⟩
      refine bB hT ?_
      clear hT
      unfold uJ at h1
      refine aU aG 2 ?_
      refine bF ?_
      exact aJ (aI (⟨rfl, _, (oI h1).symm, _, .eq (by kernel_rfl), hO⟩))
    refine bT 1 ?_
    refine aP ?_
    refine aU aG 4 ?_
    obtain ⟨c24, h1⟩ := bH h1
    refine mA 2 [0 ≤ t14 ∧ t14 < (lN t12)] ⟨c24, trivial⟩ ?_
    refine mV 2 (aD (aB.mk 0 0)) (by kernel_rfl) (by kernel_rfl) hO ?_
    intro lo25 H hO
    refine jP 3 lo25 2 0 (aD (aB.mk 0 0)) (aD (gD t12 t14)) [(aD (aB.mk 0 0))] [(lo6, 1, [(.msl 2 lo21 0 (List.length out3))]), (lo21, 2, List.map bE out3), (lo7, 1, [(eI cE)]), (lo25, 2, [(aD (gD t12 t14))])] hO rfl (by kernel_rfl) ?_
    intro H hO
    refine cQ ?_
    refine bV [] [(7, (.lp lo25 0 0))] ?_
    refine cR (fun T H => ∃ out3 : List aR, ∃ cE : Int, ∃ j7 : aB, ∃ lo26 : Nat, Has T [(3, (.lp lo6 0 0)), (4, (.lp lo7 0 0)), (5, (.fn (.func 49) [] [(.lp lo6 0 0), (.lp lo7 0 0)])), (7, (.lp lo25 0 0)), (12, (eL aD t12)), (13, (eI t13)), (14, (eI t14))] ∧ aM ⟨H0, [], []⟩ H [(lo6, 1, [(.msl 2 lo26 0 (List.length out3))]), (lo26, 2, List.map bE out3), (lo7, 1, [(eI cE)]), (lo25, 2, [(aD j7)])] ∧ uE out3 cE j7 t12 t13 t14 = some out1) ?_ ?_
    · clear hO h1
      rintro T H ⟨out3, cE, j7, lo26, hT, hO, h1⟩
      refine bB hT ?_
      clear hT
      unfold uE at h1
      refine aP ?_
      refine aU aG 4 ?_
      refine bS 1 ?_
      refine jZ 3 lo25 2 0 (aD j7) (eI j7.Net) [(aD j7)] hO rfl ?_
      refine bF ?_
      refine bV [] [(31, (eI (wR (0 - j7.Net)))), (32, (eI (0 : Int)))] ?_
      refine bT 4 ?_
      refine cT [(3, (.lp lo6 0 0)), (4, (.lp lo7 0 0)), (5, (.fn (.func 49) [] [(.lp lo6 0 0), (.lp lo7 0 0)])), (7, (.lp lo25 0 0)), (12, (eL aD t12)), (13, (eI t13)), (14, (eI t14)), (31, (eI (wR (0 - j7.Net)))), (32, (eI (0 : Int)))] ?_
      refine cH (fun T H => ∃ out3 : List aR, ∃ cE : Int, ∃ j7 : aB, ∃ t31 : Int, ∃ t32 : Int, ∃ lo28 : Nat, Has T [(3, (.lp lo6 0 0)), (4, (.lp lo7 0 0)), (5, (.fn (.func 49) [] [(.lp lo6 0 0), (.lp lo7 0 0)])), (7, (.lp lo25 0 0)), (12, (eL aD t12)), (13, (eI t13)), (14, (eI t14)), (31, (eI t31)), (32, (eI t32))] ∧ aM ⟨H0, [], []⟩ H [(lo6, 1, [(.msl 2 lo28 0 (List.length out3))]), (lo28, 2, List.map bE out3), (lo7, 1, [(eI cE)]), (lo25, 2, [(aD j7)])] ∧ yW out3 cE j7 t12 t13 t14 t31 t32 = some out1) ?_ ⟨out3, cE, j7, wR (0 - j7.Net), (0 : Int), lo26, .eq (by kernel_rfl), hO, h1⟩
      clear hO h1
      rintro T H ⟨out3, cE, j7, t31, t32, lo28, hT, hO, h1⟩
      refine bB hT ?_
      clear hT
      unfold yW at h1
      obtain ⟨rr1, hl1, h1⟩ := aX h1
      refine bZ (by kernel_rfl) (fun (s : List aR × Int × aB × Int) T H => ∃ lo28 : Nat, Has T [(3, (.lp lo6 0 0)), (4, (.lp lo7 0 0)), (5, (.fn (.func 49) [] [(.lp lo6 0 0), (.lp lo7 0 0)])), (7, (.lp lo25 0 0)), (12, (eL aD t12)), (13, (eI t13)), (14, (eI t14)), (31, (eI t31)), (32, (eI s.2.2.2))] ∧ aM ⟨H0, [], []⟩ H [(lo6, 1, [(.msl 2 lo28 0 (List.length s.1))]), (lo28, 2, List.map bE s.1), (lo7, 1, [(eI s.2.1)]), (lo25, 2, [(aD s.2.2.1)])]) hl1 ⟨lo28, .eq (by kernel_rfl), hO⟩ ?_
      clear hO
      rintro k1 s out2 T H ⟨lo28, hT, hO⟩ h2 ho1
      obtain ⟨out3, cE, j7, t32⟩ := s
      replace h2 : lW t12 t13 t14 t31 out3 cE j7 t32 = some out2 := h2
      try dsimp only at hT
      refine bB hT ?_
      clear hT
      unfold lW at h2
      refine aZ aG 1 [] [(33, (aK (decide (t32 < t31))))] ?_
      refine aP ?_
      refine bJ h2 (fun h2 => ?_) (fun h2 => ?_)
      · refine bL ?_
        refine bG [(3, (.lp lo6 0 0)), (4, (.lp lo7 0 0)), (5, (.fn (.func 49) [] [(.lp lo6 0 0), (.lp lo7 0 0)])), (7, (.lp lo25 0 0)), (12, (eL aD t12)), (13, (eI t13)), (14, (eI t14)), (31, (eI t31)), (32, (eI t32))] ?_
        refine aP ?_
        refine bT 5 ?_
        refine aU aG 4 ?_
        refine bS 2 ?_
        refine jZ 3 lo25 2 0 (aD j7) (eI j7.At) [(aD j7)] hO rfl ?_
        obtain ⟨x30, hx31, h2⟩ := aX h2
        refine aCL [(lo25, 2, [(aD j7)])] [0, 1, 2, 3] (CM j7.At lo6 lo28 out3 lo7 cE _ hx31) hO ?_
        intro r33 L34 H hP35 hO
        obtain ⟨lo32, rfl, rfl⟩ := hP35
        replace hO : aM ⟨H0, [], []⟩ H [(lo6, 1, [(.msl 2 lo32 0 (List.length x30.1))]), (lo32, 2, List.map bE x30.1), (lo7, 1, [(eI x30.2)]), (lo25, 2, [(aD j7)])] := hO
        refine cQ ?_
        refine cX [(3, (.lp lo6 0 0)), (4, (.lp lo7 0 0)), (5, (.fn (.func 49) [] [(.lp lo6 0 0), (.lp lo7 0 0)])), (7, (.lp lo25 0 0)), (12, (eL aD t12)), (13, (eI t13)), (14, (eI t14)), (31, (eI t31)), (32, (eI t32))] ?_
        refine aJ (aW (aI (?_)))
        refine aU aG 2 ?_
        refine bF ?_
        exact aJ (aI (⟨rfl, _, (oI h2).symm, _, .eq (by kernel_rfl), hO⟩))
      refine cY 4 ?_
      replace hO := hO.pick (L' := [(lo6, 1, [(.msl 2 lo28 0 (List.length out3))]), (lo28, 2, List.map bE out3), (lo7, 1, [(eI cE)])]) [0, 1, 2] (by decide) (by kernel_rfl)
      obtain rfl := oI h2
      obtain rfl : _ = rr1 := ho1
      replace h1 : uJ out3 cE t12 t13 t14 = some out1 := h1
      exact aJ (aT (aT (bO (aW (aI (⟨rfl, _, _, _, .eq (by kernel_rfl), hO, h1⟩))))))
    refine aP ?_
    refine aU aG 3 ?_
    refine bS 1 ?_
    refine jZ 3 lo25 2 0 (aD (gD t12 t14)) (eI ((gD t12 t14).Net)) [(aD (gD t12 t14))] hO rfl ?_
    refine bF ?_
    refine bV [] [(19, (eI ((gD t12 t14).Net))), (20, (eI (0 : Int)))] ?_
    refine bT 2 ?_
    refine cT [(3, (.lp lo6 0 0)), (4, (.lp lo7 0 0)), (5, (.fn (.func 49) [] [(.lp lo6 0 0), (.lp lo7 0 0)])), (7, (.lp lo25 0 0)), (12, (eL aD t12)), (13, (eI t13)), (14, (eI t14)), (19, (eI ((gD t12 t14).Net))), (20, (eI (0 : Int)))] ?_
    refine cH (fun T H => ∃ out3 : List aR, ∃ cE : Int, ∃ j7 : aB, ∃ t19 : Int, ∃ t20 : Int, ∃ lo37 : Nat, Has T [(3, (.lp lo6 0 0)), (4, (.lp lo7 0 0)), (5, (.fn (.func 49) [] [(.lp lo6 0 0), (.lp lo7 0 0)])), (7, (.lp lo25 0 0)), (12, (eL aD t12)), (13, (eI t13)), (14, (eI t14)), (19, (eI t19)), (20, (eI t20))] ∧ aM ⟨H0, [], []⟩ H [(lo6, 1, [(.msl 2 lo37 0 (List.length out3))]), (lo37, 2, List.map bE out3), (lo7, 1, [(eI cE)]), (lo25, 2, [(aD j7)])] ∧ yV out3 cE j7 t12 t13 t14 t19 t20 = some out1) ?_ ⟨out3, cE, gD t12 t14, (gD t12 t14).Net, (0 : Int), lo21, .eq (by kernel_rfl), hO, h1⟩
    clear hO h1
    rintro T H ⟨out3, cE, j7, t19, t20, lo37, hT, hO, h1⟩
    refine bB hT ?_
    clear hT
    unfold yV at h1
    obtain ⟨rr1, hl1, h1⟩ := aX h1
    refine bZ (by kernel_rfl) (fun (s : List aR × Int × aB × Int) T H => ∃ lo37 : Nat, Has T [(3, (.lp lo6 0 0)), (4, (.lp lo7 0 0)), (5, (.fn (.func 49) [] [(.lp lo6 0 0), (.lp lo7 0 0)])), (7, (.lp lo25 0 0)), (12, (eL aD t12)), (13, (eI t13)), (14, (eI t14)), (19, (eI t19)), (20, (eI s.2.2.2))] ∧ aM ⟨H0, [], []⟩ H [(lo6, 1, [(.msl 2 lo37 0 (List.length s.1))]), (lo37, 2, List.map bE s.1), (lo7, 1, [(eI s.2.1)]), (lo25, 2, [(aD s.2.2.1)])]) hl1 ⟨lo37, .eq (by kernel_rfl), hO⟩ ?_
    clear hO
    rintro k1 s out2 T H ⟨lo37, hT, hO⟩ h2 ho1
    obtain ⟨out3, cE, j7, t20⟩ := s
    replace h2 : lU t12 t13 t14 t19 out3 cE j7 t20 = some out2 := h2
    try dsimp only at hT
    refine bB hT ?_
    clear hT
    unfold lU at h2
    refine aZ aG 1 [] [(21, (aK (decide (t20 < t19))))] ?_
    refine aP ?_
    refine bJ h2 (fun h2 => ?_) (fun h2 => ?_)
    · refine bL ?_
      refine bG [(3, (.lp lo6 0 0)), (4, (.lp lo7 0 0)), (5, (.fn (.func 49) [] [(.lp lo6 0 0), (.lp lo7 0 0)])), (7, (.lp lo25 0 0)), (12, (eL aD t12)), (13, (eI t13)), (14, (eI t14)), (19, (eI t19)), (20, (eI t20))] ?_
      refine aP ?_
      refine bT 3 ?_
      refine aU aG 7 ?_
      refine jZ 0 lo6 1 0 (.msl 2 lo37 0 (List.length out3)) (.msl 2 lo37 0 (List.length out3)) [(.msl 2 lo37 0 (List.length out3))] hO rfl ?_
      refine bS 2 ?_
      refine jZ 3 lo25 2 0 (aD j7) (eI j7.At) [(aD j7)] hO rfl ?_
      refine bS 4 ?_
      refine nP (xs := [(bE (aR.mk j7.At 0))]) (k := 2) (by kernel_rfl) (by kernel_rfl) ?_
      obtain ⟨c40, h2⟩ := bH h2
      refine xL (e := bE) out3 ([aR.mk j7.At 0]) 1 lo37 2 16 (dH [(bE (aR.mk j7.At 0))]) (fun lo39 => [(lo6, 1, [(.msl 2 lo37 0 (List.length out3))]), (lo39, 2, List.map bE (out3 ++ ([aR.mk j7.At 0]))), (lo7, 1, [(eI cE)]), (lo25, 2, [(aD j7)])]) (by kernel_rfl) (by kernel_rfl) hO (by kernel_rfl) (by kernel_rfl) c40 (fun _ => by kernel_rfl) ?_
      intro lo39 H hO
      refine jP 0 lo6 1 0 (.msl 2 lo37 0 (List.length out3)) (.msl 2 lo39 0 (List.length (out3 ++ ([aR.mk j7.At 0])))) [(.msl 2 lo37 0 (List.length out3))] [(lo6, 1, [(.msl 2 lo39 0 (List.length (out3 ++ ([aR.mk j7.At 0]))))]), (lo39, 2, List.map bE (out3 ++ ([aR.mk j7.At 0]))), (lo7, 1, [(eI cE)]), (lo25, 2, [(aD j7)])] hO rfl (by kernel_rfl) ?_
      intro H hO
      refine cQ ?_
      refine cX [(3, (.lp lo6 0 0)), (4, (.lp lo7 0 0)), (5, (.fn (.func 49) [] [(.lp lo6 0 0), (.lp lo7 0 0)])), (7, (.lp lo25 0 0)), (12, (eL aD t12)), (13, (eI t13)), (14, (eI t14)), (19, (eI t19)), (20, (eI t20))] ?_
      refine aJ (aW (aI (?_)))
      refine aU aG 2 ?_
      refine bF ?_
      exact aJ (aI (⟨rfl, _, (oI h2).symm, _, .eq (by kernel_rfl), hO⟩))
    refine cY 2 ?_
    obtain rfl := oI h2
    obtain rfl : _ = rr1 := ho1
    replace h1 : uE out3 cE j7 t12 t13 t14 = some out1 := h1
    exact aJ (aT (aT (bO (aI (⟨rfl, _, _, _, _, .eq (by kernel_rfl), hO, h1⟩)))))
  refine cY 0 ?_
  obtain rfl := oI h1
  obtain rfl : _ = rr0 := ho0
  replace h0 : uL out3 cE = some r := h0
  exact aJ (aT (aT (bO (aI (⟨rfl, _, _, _, .eq (by kernel_rfl), hO, h0⟩)))))

theorem IB (l0 : (List aC)) (r : ((List aN) × Int)) (h0 : qW l0 = some r) : bY Tryz.prog 7 [(eL aE l0)] (.tup [(eL aL r.1), (eI r.2)]) := by
  intro H0
  refine GI aG Tryz.func7 (by kernel_rfl) (by kernel_rfl) (by kernel_rfl) ?_
  have hO := aM.start H0
  unfold qW at h0
  refine aZ aG 2 [] [] ?_
  refine aP ?_
  refine bT 0 ?_
  refine aP ?_
  refine aU aG 4 ?_
  refine bS 1 ?_
  obtain ⟨x1, hx2, h0⟩ := aX h0
  refine cF (MV l0 _ hx2) hO ?_
  intro H hO
  refine bF ?_
  refine bV [] [(12, (aK (!x1)))] ?_
  refine bJ h0 (fun h0 => ?_) (fun h0 => ?_)
  · refine bU aG 2 [(2, (.sl true 0 (fun _ => .bad))), (3, (eI (2 : Int)))] ?_
    refine bK ?_
    refine cP (l := [(2, (eL aL ([]))), (3, (eI (2 : Int)))]) ⟨[(2, (.sl true 0 (fun _ => .bad))), (3, (eI (2 : Int)))], by kernel_rfl, rfl, ⟨eD, aV.refl _, trivial⟩⟩ ?_
    obtain rfl := oI h0
    exact aJ (bR (aS (QM0 (.inr rfl) (rs := [.tmp 2, .tmp 3]) (xs := [(eL aL ([])), (eI (2 : Int))]) (x := (.tup [(eL aL ([])), (eI (2 : Int))])) (by kernel_rfl) (CF (x := (eL aL ([]))) (by kernel_rfl) (CF (x := (eI (2 : Int))) (by kernel_rfl) sJ)) (by kernel_rfl) ⟨rfl, hO.out⟩)))
  refine aP ?_
  refine aU aG 4 ?_
  refine bS 1 ?_
  obtain ⟨x5, hx6, h0⟩ := aX h0
  refine cF (TJ l0 _ hx6) hO ?_
  intro H hO
  refine bF ?_
  refine bV [12] [(16, (aK (!x5)))] ?_
  refine bJ h0 (fun h0 => ?_) (fun h0 => ?_)
  · refine bU aG 2 [(2, (.sl true 0 (fun _ => .bad))), (3, (eI (20 : Int)))] ?_
    refine bK ?_
    refine cP (l := [(2, (eL aL ([]))), (3, (eI (20 : Int)))]) ⟨[(2, (.sl true 0 (fun _ => .bad))), (3, (eI (20 : Int)))], by kernel_rfl, rfl, ⟨eD, aV.refl _, trivial⟩⟩ ?_
    obtain rfl := oI h0
    exact aJ (bR (aS (QM0 (.inr rfl) (rs := [.tmp 2, .tmp 3]) (xs := [(eL aL ([])), (eI (20 : Int))]) (x := (.tup [(eL aL ([])), (eI (20 : Int))])) (by kernel_rfl) (CF (x := (eL aL ([]))) (by kernel_rfl) (CF (x := (eI (20 : Int))) (by kernel_rfl) sJ)) (by kernel_rfl) ⟨rfl, hO.out⟩)))
  refine bL ?_
  refine cX [(0, (eL aE l0))] ?_
  refine aJ (aW (aI (?_)))
  refine aP ?_
  refine aU aG 2 ?_
  refine mV 1 (eI 0) (by kernel_rfl) (by kernel_rfl) hO ?_
  intro lo9 H hO
  refine jP 0 lo9 1 0 (eI 0) (eI (0 : Int)) [(eI 0)] [(lo9, 1, [(eI (0 : Int))])] hO rfl (by kernel_rfl) ?_
  intro H hO
  refine cQ ?_
  refine bV [] [(4, (.lp lo9 0 0))] ?_
  refine aP ?_
  refine aP ?_
  refine aU aG 2 ?_
  refine bS 1 ?_
  obtain ⟨x10, hx11, h0⟩ := aX h0
  refine cF (HZ l0 _ hx11) hO ?_
  intro H hO
  refine cQ ?_
  refine bV [] [(21, (.fn (.func 47) [] [(.rp (eL aE x10))]))] ?_
  refine bT 1 ?_
  refine cT [(0, (eL aE l0)), (4, (.lp lo9 0 0)), (21, (.fn (.func 47) [] [(.rp (eL aE x10))]))] ?_
  refine cH (fun T H => ∃ n4 : Int, ∃ wN : (List aC), Has T [(0, (eL aE l0)), (4, (.lp lo9 0 0)), (21, (.fn (.func 47) [] [(.rp (eL aE wN))]))] ∧ aM ⟨H0, [], []⟩ H [(lo9, 1, [(eI n4)])] ∧ xC l0 n4 wN = some r) ?_ ⟨(0 : Int), x10, .eq (by kernel_rfl), hO, h0⟩
  clear hO h0
  rintro T H ⟨n4, wN, hT, hO, h0⟩
  refine bB (l := [(0, (eL aE l0)), (4, (.lp lo9 0 0)), (21, (.fn (.func 47) [] [(.rp (eL aE wN))]))]) hT ?_
  clear hT
  unfold xC at h0
  obtain ⟨o0, hl0, h0⟩ := aX h0
  refine EE (fid := 47) (ys := []) (cs := [(.rp (eL aE wN))]) #[22, 23] (fun (A : BW) (b lL : Nat) (st : (Int) ⊕ (Int)) (G' : Gs) => Sum.elim (fun (s : Int) => G' = (lL, .raw (kM b A .ready none)) :: (up [(lo9, 1, [(eI s)])] ++ [])) (fun (s : Int) => False) st) (.inl n4) o0 (.tup []) (by kernel_rfl) (by kernel_rfl) (by kernel_rfl) hO (fun _ _ => rfl) ?_ ?_
  · intro b lL
    clear hO h0
    refine CZ _ b (fun st t22 t23 => rnd (fun (s : Int) => nW l0 wN s t22 t23) st) ?_ wN _ _ hl0
    intro st t22 t23 out1 rr hr
    obtain ⟨s, rfl, h1, rfl⟩ := SL hr
    clear hr
    intro Hr Gr hi hg
    obtain ⟨n4, rfl⟩ : ∃ x, x = s := ⟨_, rfl⟩
    dsimp only [Sum.elim_inl] at hi
    obtain rfl := hi
    replace h1 : nW l0 wN n4 t22 t23 = some out1 := h1
    unfold nW at h1
    obtain ⟨E1, hE, hO⟩ := yA hg
    refine yF (EA (hO.gm 0 _ rfl).2 (by kernel_rfl) (by kernel_rfl) ?_)
    refine cT [(0, (eL aE l0)), (4, (.lp lo9 0 0)), (21, (.fn (.func 47) [] [(.rp (eL aE wN))])), (22, (eL aH t22)), (23, (eL aD t23))] ?_
    refine aU aG 1 ?_
    refine bF ?_
    refine cX [(4, (.lp lo9 0 0)), (6, (eL aD t23))] ?_
    refine aJ (⟨rfl, rfl, (hO.gm 0 _ rfl).2, ?_⟩)
    intro o1 ho1
    replace hO := hO.xN o1
    refine bT 2 ?_
    refine fQ (fP [26]) aG 5 ?_
    refine kX 0 lo9 1 0 (eI n4) (eI n4) [(eI n4)] hO rfl ?_
    refine qG 2 ?_
    obtain ⟨x12, hx13, h1⟩ := aX h1
    refine zK (KZ t23 _ hx13) hO ?_
    intro H hO
    refine qG 4 ?_
    refine tD 0 lo9 1 0 (eI n4) (eI (wR (n4 + x12))) [(eI n4)] [(lo9, 1, [(eI (wR (n4 + x12)))])] hO rfl (by kernel_rfl) ?_
    intro H hO
    refine AO (by kernel_rfl) ?_
    refine cX [(4, (.lp lo9 0 0))] ?_
    obtain rfl := oI h1
    exact aJ (aW (⟨(gK hO hE ho1 .dead).1, rfl, _, rfl, (gK hO hE ho1 _).2⟩))
  · intro b lD15 lL H' G' hi hO
    rcases o0 with s | s
    · dsimp only [Sum.elim_inl] at hi
      obtain rfl := hi
      replace h0 : (cond (decide ((4096 : Int) < s)) (some ([], (7 : Int))) (bI (0 ≤ s ∧ (40 : Int) * s ≤ 281474976710656 ∧ s ≤ 9223372036854775807) <| (qP l0).bind fun x20 => sP ([] : List aN) x20)) = some r := h0
      obtain ⟨hlL, hO⟩ := rJ hO
      refine ⟨_, _, hlL, (by intro e; cases e), ?_⟩
      refine cX [(0, (eL aE l0)), (4, (.lp lo9 0 0))] ?_
      refine aJ (aW (aI (?_)))
      refine aP ?_
      refine aP ?_
      refine aU aG 2 ?_
      refine jZ 0 lo9 1 0 (eI s) (eI s) [(eI s)] hO rfl ?_
      refine bF ?_
      refine bV [] [(29, (aK (decide ((4096 : Int) < s))))] ?_
      refine bJ h0 (fun h0 => ?_) (fun h0 => ?_)
      · refine aP ?_
        refine aU aG 2 ?_
        refine bF ?_
        refine cX [(2, (.sl true 0 (fun _ => .bad))), (3, (eI (7 : Int)))] ?_
        replace hO := hO.pick (L' := []) [] (by decide) (by kernel_rfl)
        refine aJ (aI (?_))
        refine bK ?_
        refine cP (l := [(2, (eL aL ([]))), (3, (eI (7 : Int)))]) ⟨[(2, (.sl true 0 (fun _ => .bad))), (3, (eI (7 : Int)))], by kernel_rfl, rfl, ⟨eD, aV.refl _, trivial⟩⟩ ?_
        obtain rfl := oI h0
        have hD := (hO.gm 0 _ rfl).2
        replace hO := (hO.xN .dead).xJ
        exact aJ (aS (QM1 (.inr rfl) hD (rs := [.tmp 2, .tmp 3]) (xs := [(eL aL ([])), (eI (7 : Int))]) (x := (.tup [(eL aL ([])), (eI (7 : Int))])) (by kernel_rfl) (CF (x := (eL aL ([]))) (by kernel_rfl) (CF (x := (eI (7 : Int))) (by kernel_rfl) sJ)) (by kernel_rfl) ⟨rfl, hO.out⟩))
      refine bL ?_
      refine bG [(0, (eL aE l0)), (4, (.lp lo9 0 0))] ?_
      refine aP ?_
      refine aU aG 4 ?_
      refine jZ 0 lo9 1 0 (eI s) (eI s) [(eI s)] hO rfl ?_
      obtain ⟨c17, h0⟩ := bH h0
      refine KL 3 40 s (by kernel_rfl) (by kernel_rfl) c17 hO ?_
      intro lo18 H hO
      refine tG 1 (.sl true 0 (fun _ => .bad)) (eL aL ([])) (by kernel_rfl) (by kernel_rfl) (by kernel_rfl) (eD) (by kernel_rfl) (by kernel_rfl) hO ?_
      intro lo19 H hO
      refine jP 2 lo19 1 0 (eL aL ([])) (.msl 3 lo18 0 (List.length ([] : List aN))) [(eL aL ([]))] [(lo9, 1, [(eI s)]), (lo18, 3, List.map aL ([] : List aN)), (lo19, 1, [(.msl 3 lo18 0 (List.length ([] : List aN)))])] hO rfl (by kernel_rfl) ?_
      intro H hO
      refine cQ ?_
      replace hO := hO.pick (L' := [(lo19, 1, [(.msl 3 lo18 0 (List.length ([] : List aN)))]), (lo18, 3, List.map aL ([] : List aN))]) [2, 1] (by decide) (by kernel_rfl)
      refine bV [4] [(7, (.lp lo19 0 0))] ?_
      refine aP ?_
      refine aP ?_
      refine aU aG 2 ?_
      refine bS 1 ?_
      obtain ⟨x20, hx21, h0⟩ := aX h0
      refine cF (HZ l0 _ hx21) hO ?_
      intro H hO
      refine cQ ?_
      refine bV [0] [(33, (.fn (.func 47) [] [(.rp (eL aE x20))]))] ?_
      refine bT 3 ?_
      refine cT [(7, (.lp lo19 0 0)), (33, (.fn (.func 47) [] [(.rp (eL aE x20))]))] ?_
      refine cH (fun T H => ∃ out7 : List aN, ∃ xI : (List aC), ∃ lo22 : Nat, Has T [(7, (.lp lo19 0 0)), (33, (.fn (.func 47) [] [(.rp (eL aE xI))]))] ∧ aM ⟨H0, [], (lD15, .raw xS) :: []⟩ H [(lo19, 1, [(.msl 3 lo22 0 (List.length out7))]), (lo22, 3, List.map aL out7)] ∧ sP out7 xI = some r) ?_ ⟨([] : List aN), x20, lo18, .eq (by kernel_rfl), hO, h0⟩
      clear hO h0
      rintro T H ⟨out7, xI, lo22, hT, hO, h0⟩
      refine bB (l := [(7, (.lp lo19 0 0)), (33, (.fn (.func 47) [] [(.rp (eL aE xI))]))]) hT ?_
      clear hT
      unfold sP at h0
      obtain ⟨o0, hl0, h0⟩ := aX h0
      refine EE (fid := 47) (ys := []) (cs := [(.rp (eL aE xI))]) #[34, 35] (fun (A : BW) (b lL : Nat) (st : (List aN) ⊕ (List aN)) (G' : Gs) => Sum.elim (fun (s : List aN) => ∃ lo22 : Nat, G' = (lL, .raw (kM b A .ready none)) :: (up [(lo19, 1, [(.msl 3 lo22 0 (List.length s))]), (lo22, 3, List.map aL s)] ++ (lD15, .raw xS) :: [])) (fun (s : List aN) => False) st) (.inl out7) o0 (.tup []) (by kernel_rfl) (by kernel_rfl) (by kernel_rfl) hO (fun _ _ => ⟨lo22, rfl⟩) ?_ ?_
      · intro b lL
        clear hO h0
        refine CZ _ b (fun st t34 t35 => rnd (fun (s : List aN) => nU xI s t34 t35) st) ?_ xI _ _ hl0
        intro st t34 t35 out1 rr hr
        obtain ⟨s, rfl, h1, rfl⟩ := SL hr
        clear hr
        intro Hr Gr hi hg
        obtain ⟨out7, rfl⟩ : ∃ x, x = s := ⟨_, rfl⟩
        dsimp only [Sum.elim_inl] at hi
        obtain ⟨lo22, rfl⟩ := hi
        replace h1 : nU xI out7 t34 t35 = some out1 := h1
        unfold nU at h1
        obtain ⟨E1, hE, hO⟩ := yA hg
        refine yF (EA (hO.gm 0 _ rfl).2 (by kernel_rfl) (by kernel_rfl) ?_)
        refine cT [(7, (.lp lo19 0 0)), (33, (.fn (.func 47) [] [(.rp (eL aE xI))])), (34, (eL aH t34)), (35, (eL aD t35))] ?_
        refine aZ aG 1 [33, 34] [(8, (eL aH t34))] ?_
        refine aU aG 1 ?_
        refine bF ?_
        refine cX [(7, (.lp lo19 0 0)), (8, (eL aH t34)), (9, (eL aD t35))] ?_
        refine aJ (⟨rfl, rfl, (hO.gm 0 _ rfl).2, ?_⟩)
        intro o1 ho1
        replace hO := hO.xN o1
        refine bT 4 ?_
        refine aP ?_
        refine aU aG 4 ?_
        refine bS 1 ?_
        obtain ⟨x23, hx24, h1⟩ := aX h1
        refine cF (SV t35 _ hx24) hO ?_
        intro H hO
        refine bF ?_
        refine bV [9] [(37, (eL bE x23)), (38, (eI (lN x23))), (39, (eI (0 : Int)))] ?_
        refine bT 5 ?_
        refine cT [(7, (.lp lo19 0 0)), (8, (eL aH t34)), (37, (eL bE x23)), (38, (eI (lN x23))), (39, (eI (0 : Int)))] ?_
        refine cH (fun T H => ∃ out7 : List aN, ∃ r8 : (List aF), ∃ t37 : (List aR), ∃ t38 : Int, ∃ t39 : Int, ∃ lo27 : Nat, Has T [(7, (.lp lo19 0 0)), (8, (eL aH r8)), (37, (eL bE t37)), (38, (eI t38)), (39, (eI t39))] ∧ aM ⟨Hr, E1, (lL, o1) :: (lD15, .raw xS) :: []⟩ H [(lo19, 1, [(.msl 3 lo27 0 (List.length out7))]), (lo27, 3, List.map aL out7)] ∧ sE out7 r8 t37 t38 t39 = some out1) ?_ ⟨out7, t34, x23, (lN x23), (0 : Int), lo22, .eq (by kernel_rfl), hO, h1⟩
        clear hO h1
        rintro T H ⟨out7, r8, t37, t38, t39, lo27, hT, hO, h1⟩
        refine bB hT ?_
        clear hT
        unfold sE at h1
        obtain ⟨rr1, hl1, h1⟩ := aX h1
        refine bZ (by kernel_rfl) (fun (s : List aN × Int) T H => ∃ lo27 : Nat, Has T [(7, (.lp lo19 0 0)), (8, (eL aH r8)), (37, (eL bE t37)), (38, (eI t38)), (39, (eI s.2))] ∧ aM ⟨Hr, E1, (lL, o1) :: (lD15, .raw xS) :: []⟩ H [(lo19, 1, [(.msl 3 lo27 0 (List.length s.1))]), (lo27, 3, List.map aL s.1)]) hl1 ⟨lo27, .eq (by kernel_rfl), hO⟩ ?_
        clear hO
        rintro k1 s out2 T H ⟨lo27, hT, hO⟩ h2 ho1
        obtain ⟨out7, t39⟩ := s
        replace h2 : mK r8 t37 t38 out7 t39 = some out2 := h2
        try dsimp only at hT
        refine bB hT ?_
        clear hT
        unfold mK at h2
        refine aZ aG 1 [] [(40, (aK (decide (t39 < t38))))] ?_
        refine aP ?_
        refine bJ h2 (fun h2 => ?_) (fun h2 => ?_)
        · refine bL ?_
          refine bG [(7, (.lp lo19 0 0)), (8, (eL aH r8)), (37, (eL bE t37)), (38, (eI t38)), (39, (eI t39))] ?_
          refine aP ?_
          refine bT 6 ?_
          refine aP ?_
          refine aU aG 4 ?_
          obtain ⟨c29, h2⟩ := bH h2
          refine mA 2 [0 ≤ t39 ∧ t39 < (lN t37)] ⟨c29, trivial⟩ ?_
          refine mV 2 (bE (aR.mk 0 0)) (by kernel_rfl) (by kernel_rfl) hO ?_
          intro lo30 H hO
          refine jP 2 lo30 2 0 (bE (aR.mk 0 0)) (bE (gD t37 t39)) [(bE (aR.mk 0 0))] [(lo19, 1, [(.msl 3 lo27 0 (List.length out7))]), (lo27, 3, List.map aL out7), (lo30, 2, [(bE (gD t37 t39))])] hO rfl (by kernel_rfl) ?_
          intro H hO
          refine cQ ?_
          refine bV [] [(11, (.lp lo30 0 0))] ?_
          refine cT [(7, (.lp lo19 0 0)), (8, (eL aH r8)), (11, (.lp lo30 0 0)), (37, (eL bE t37)), (38, (eI t38)), (39, (eI t39))] ?_
          refine QO 2 2 11 2 lo30 (bE (gD t37 t39)) [(lo19, 1, [(.msl 3 lo27 0 (List.length out7))]), (lo27, 3, List.map aL out7)] hO (by kernel_rfl) (by kernel_rfl) (by kernel_rfl) ?_
          intro H hO
          refine fQ (fP [45, 46, 48]) aG 8 ?_
          refine kX 0 lo19 1 0 (.msl 3 lo27 0 (List.length out7)) (.msl 3 lo27 0 (List.length out7)) [(.msl 3 lo27 0 (List.length out7))] hO rfl ?_
          refine qG 2 ?_
          obtain ⟨x31, hx32, h2⟩ := aX h2
          refine zK (HT r8 _ hx32) hO ?_
          intro H hO
          refine qG 5 ?_
          refine HV (xs := [(aL (aN.mk x31 (gD t37 t39)))]) (k := 3) (by kernel_rfl) (by kernel_rfl) ?_
          obtain ⟨c35, h2⟩ := bH h2
          refine GD (e := aL) out7 ([aN.mk x31 (gD t37 t39)]) 1 lo27 3 40 (dH [(aL (aN.mk x31 (gD t37 t39)))]) (fun lo34 => [(lo19, 1, [(.msl 3 lo27 0 (List.length out7))]), (lo34, 3, List.map aL (out7 ++ ([aN.mk x31 (gD t37 t39)])))]) (by kernel_rfl) (by kernel_rfl) hO (by kernel_rfl) (by kernel_rfl) c35 (fun _ => by kernel_rfl) ?_
          intro lo34 H hO
          refine tD 0 lo19 1 0 (.msl 3 lo27 0 (List.length out7)) (.msl 3 lo34 0 (List.length (out7 ++ ([aN.mk x31 (gD t37 t39)])))) [(.msl 3 lo27 0 (List.length out7))] [(lo19, 1, [(.msl 3 lo34 0 (List.length (out7 ++ ([aN.mk x31 (gD t37 t39)]))))]), (lo34, 3, List.map aL (out7 ++ ([aN.mk x31 (gD t37 t39)])))] hO rfl (by kernel_rfl) ?_
          intro H hO
          refine AO (by kernel_rfl) ?_
          refine cX [(7, (.lp lo19 0 0)), (8, (eL aH r8)), (37, (eL bE t37)), (38, (eI t38)), (39, (eI t39))] ?_
          refine aJ (aW (aI (?_)))
          refine aU aG 2 ?_
          refine bF ?_
          exact aJ (aI (⟨rfl, _, (oI h2).symm, _, .eq (by kernel_rfl), hO⟩))
        refine cY 5 ?_
        refine cX [(7, (.lp lo19 0 0))] ?_
        obtain rfl := oI h2
        obtain rfl : _ = rr1 := ho1
        replace h1 : some (.inl out7) = some out1 := h1
        obtain rfl := oI h1
        exact aJ (aT (aT (bO (aW (⟨(gK hO hE ho1 .dead).1, rfl, _, ⟨lo27, rfl⟩, (gK hO hE ho1 _).2⟩)))))
      · intro b lD36 lL H' G' hi hO
        rcases o0 with s | s
        · dsimp only [Sum.elim_inl] at hi
          obtain ⟨lo22, rfl⟩ := hi
          replace h0 : (some (s, (0 : Int))) = some r := h0
          obtain ⟨hlL, hO⟩ := rJ hO
          refine ⟨_, _, hlL, (by intro e; cases e), ?_⟩
          refine cX [(7, (.lp lo19 0 0))] ?_
          refine aJ (aW (aI (?_)))
          refine aP ?_
          refine aU aG 3 ?_
          refine jZ 0 lo19 1 0 (.msl 3 lo22 0 (List.length s)) (.msl 3 lo22 0 (List.length s)) [(.msl 3 lo22 0 (List.length s))] hO rfl ?_
          refine bF ?_
          refine cX [(2, (.msl 3 lo22 0 (List.length s))), (3, (eI (0 : Int)))] ?_
          replace hO := hO.pick (L' := [(lo22, 3, List.map aL s)]) [1] (by decide) (by kernel_rfl)
          refine aJ (aI (?_))
          refine bK ?_
          refine cX [(2, (.msl 3 lo22 0 (List.length s))), (3, (eI (0 : Int)))] ?_
          refine vP (en := aL) s 0 0 2 3 lo22 (List.length s) hO (by kernel_rfl) (by kernel_rfl) (by kernel_rfl) (L' := []) (by kernel_rfl) ?_
          intro H37 hO
          obtain rfl := oI h0
          have hD := (hO.gm 0 _ rfl).2
          have hE := (hO.gm 1 _ rfl).2
          have hF := hO.gn 0 1 _ _ rfl rfl (by decide)
          replace hO := ((hO.xN .dead).xJ.xN .dead).xJ
          exact aJ (QM2 (.inr rfl) hD hE hF (rs := [.tmp 2, .tmp 3]) (xs := [(eL aL s), (eI (0 : Int))]) (x := (.tup [(eL aL s), (eI (0 : Int))])) (by kernel_rfl) (CF (x := (eL aL s)) (by kernel_rfl) (CF (x := (eI (0 : Int))) (by kernel_rfl) sJ)) (by kernel_rfl) ⟨rfl, hO.out⟩)
        · exact hi.elim
    · exact hi.elim

theorem LA (l0 : (List aN)) (r : ((List aN) × Int)) (h0 : uP l0 = some r) : bY Tryz.prog 13 [(eL aL l0)] (.tup [(eL aL r.1), (eI r.2)]) := by
  intro H0
  refine cG Tryz.func13 ?_
  have hO := aM.start H0
  unfold uP at h0
  refine aZ aG 2 [] [] ?_
  refine aP ?_
  refine aU aG 7 ?_
  refine bS 1 ?_
  obtain ⟨x1, hx2, h0⟩ := aX h0
  refine cF (IQ l0 _ hx2) hO ?_
  intro H hO
  refine bF ?_
  refine bG [(4, (eL aE x1.1)), (5, (eI x1.2))] ?_
  refine aP ?_
  refine aZ aG 2 [] [(12, (aK (!decide (x1.2 = (0 : Int)))))] ?_
  refine bJ h0 (fun h0 => ?_) (fun h0 => ?_)
  · refine bU aG 3 [(2, (.sl true 0 (fun _ => .bad))), (3, (eI x1.2))] ?_
    refine bK ?_
    refine cP (l := [(2, (eL aL ([]))), (3, (eI x1.2))]) ⟨[(2, (.sl true 0 (fun _ => .bad))), (3, (eI x1.2))], by kernel_rfl, rfl, ⟨eD, aV.refl _, trivial⟩⟩ ?_
    obtain rfl := oI h0
    exact aJ (aS (Q_r hO))
  refine bL ?_
  refine bG [(4, (eL aE x1.1))] ?_
  refine aP ?_
  refine aU aG 6 ?_
  refine bS 1 ?_
  obtain ⟨x5, hx6, h0⟩ := aX h0
  refine cF (IB x1.1 _ hx6) hO ?_
  intro H hO
  refine bF ?_
  refine bG [(2, (eL aL x5.1)), (3, (eI x5.2))] ?_
  refine bK ?_
  obtain rfl := oI h0
  exact aJ (Q_r hO)

theorem nN (s10 : (List aN)) (s21 : (List aN)) (eq2_f : Nat) (eq2_a eq2_c : List V) (eq2 : aN → aN → Option Bool) (eq2_h : ∀ a0 a1 r, eq2 a0 a1 = some r → bY Tryz.prog eq2_f (eq2_a ++ [(aL a0), (aL a1)] ++ eq2_c) (aK r)) (r : Bool) (h0 : cW s10 s21 eq2 = some r) : bY Tryz.prog 40 [(eL aL s10), (eL aL s21), (.fn (.func eq2_f) eq2_a eq2_c)] (aK r) := by
  intro H0
  refine cG Tryz.func40 ?_
  have hO := aM.start H0
  unfold cW at h0
  refine aZ aG 1 [] [] ?_
  refine aP ?_
  refine aZ aG 5 [] [(14, (aK (!decide ((lN s10) = (lN s21)))))] ?_
  refine bJ h0 (fun h0 => ?_) (fun h0 => ?_)
  · refine bU aG 1 [(6, (aK false))] ?_
    refine bK ?_
    obtain rfl := oI h0
    exact aJ (aS (Q_r hO))
  refine bL ?_
  refine bG [(0, (eL aL s10)), (1, (eL aL s21)), (2, (.fn (.func eq2_f) eq2_a eq2_c))] ?_
  refine cR (fun T H => Has T [] ∧ aM ⟨H0, [], []⟩ H [] ∧ cK eq2  = some r) ?_ ?_
  · clear hO h0
    rintro T H ⟨hT, hO, h0⟩
    refine bB hT ?_
    clear hT
    unfold cK at h0
    refine bU aG 1 [(6, (aK true))] ?_
    refine bK ?_
    obtain rfl := oI h0
    exact aJ (Q_r hO)
  refine aZ aG 3 [0] [(15, (eL aL s10)), (16, (eI (lN s10))), (17, (eI (0 : Int)))] ?_
  refine bT 0 ?_
  refine cT [(1, (eL aL s21)), (2, (.fn (.func eq2_f) eq2_a eq2_c)), (15, (eL aL s10)), (16, (eI (lN s10))), (17, (eI (0 : Int)))] ?_
  refine cH (fun T H => ∃ t15 : (List aN), ∃ t16 : Int, ∃ t17 : Int, Has T [(1, (eL aL s21)), (2, (.fn (.func eq2_f) eq2_a eq2_c)), (15, (eL aL t15)), (16, (eI t16)), (17, (eI t17))] ∧ aM ⟨H0, [], []⟩ H [] ∧ cV eq2 s21 t15 t16 t17 = some r) ?_ ⟨s10, (lN s10), (0 : Int), .eq (by kernel_rfl), hO, h0⟩
  clear hO h0
  rintro T H ⟨t15, t16, t17, hT, hO, h0⟩
  refine bB hT ?_
  clear hT
  unfold cV at h0
  obtain ⟨rr0, hl0, h0⟩ := aX h0
  refine bZ (by kernel_rfl) (fun (s : Int) T H => Has T [(1, (eL aL s21)), (2, (.fn (.func eq2_f) eq2_a eq2_c)), (15, (eL aL t15)), (16, (eI t16)), (17, (eI s))] ∧ aM ⟨H0, [], []⟩ H []) hl0 ⟨.eq (by kernel_rfl), hO⟩ ?_
  clear hO
  rintro k0 s out1 T H ⟨hT, hO⟩ h1 ho0
  obtain ⟨t17, rfl⟩ : ∃ x, x = s := ⟨_, rfl⟩
  replace h1 : cD eq2 s21 t15 t16 t17 = some out1 := h1
  refine bB hT ?_
  clear hT
  unfold cD at h1
  refine aZ aG 1 [] [(18, (aK (decide (t17 < t16))))] ?_
  refine aP ?_
  refine bJ h1 (fun h1 => ?_) (fun h1 => ?_)
  · refine bL ?_
    refine bG [(1, (eL aL s21)), (2, (.fn (.func eq2_f) eq2_a eq2_c)), (15, (eL aL t15)), (16, (eI t16)), (17, (eI t17))] ?_
    refine aP ?_
    refine bT 1 ?_
    refine aP ?_
    refine aU aG 6 ?_
    obtain ⟨c3, h1⟩ := bH h1
    refine mA 3 [0 ≤ t17 ∧ t17 < (lN t15)] ⟨c3, trivial⟩ ?_
    refine tG 3 (.agg [(.sl true 0 (fun _ => .bad)), (eI 0), (eI 0)]) (aL (aN.mk ([]) (aR.mk 0 0))) (by kernel_rfl) (by kernel_rfl) (by kernel_rfl) (JG (xs := [(.sl true 0 (fun _ => .bad)), (eI 0), (eI 0)]) (ys := [(eL aH ([])), (eI 0), (eI 0)]) ⟨eD, aV.refl _, aV.refl _, trivial⟩) (by kernel_rfl) (by kernel_rfl) hO ?_
    intro lo4 H hO
    refine bS 5 ?_
    refine jP 0 lo4 3 0 (aL (aN.mk ([]) (aR.mk 0 0))) (aL (gD t15 t17)) [(aL (aN.mk ([]) (aR.mk 0 0)))] [(lo4, 3, [(aL (gD t15 t17))])] hO rfl (by kernel_rfl) ?_
    intro H hO
    refine cQ ?_
    refine bV [] [(7, (eI t17)), (8, (.lp lo4 0 0))] ?_
    refine aP ?_
    refine aU aG 6 ?_
    obtain ⟨c5, h1⟩ := bH h1
    refine mA 4 [0 ≤ t17 ∧ t17 < (lN s21)] ⟨c5, trivial⟩ ?_
    refine tG 3 (.agg [(.sl true 0 (fun _ => .bad)), (eI 0), (eI 0)]) (aL (aN.mk ([]) (aR.mk 0 0))) (by kernel_rfl) (by kernel_rfl) (by kernel_rfl) (JG (xs := [(.sl true 0 (fun _ => .bad)), (eI 0), (eI 0)]) (ys := [(eL aH ([])), (eI 0), (eI 0)]) ⟨eD, aV.refl _, aV.refl _, trivial⟩) (by kernel_rfl) (by kernel_rfl) hO ?_
    intro lo6 H hO
    refine jP 1 lo6 3 0 (aL (aN.mk ([]) (aR.mk 0 0))) (aL (gD s21 t17)) [(aL (aN.mk ([]) (aR.mk 0 0)))] [(lo4, 3, [(aL (gD t15 t17))]), (lo6, 3, [(aL (gD s21 t17))])] hO rfl (by kernel_rfl) ?_
    intro H hO
    refine cQ ?_
    refine bV [7] [(9, (.lp lo6 0 0))] ?_
    refine aP ?_
    refine aU aG 5 ?_
    refine bS 1 ?_
    refine jZ 0 lo4 3 0 (aL (gD t15 t17)) (aL (gD t15 t17)) [(aL (gD t15 t17))] hO rfl ?_
    refine jZ 1 lo6 3 0 (aL (gD s21 t17)) (aL (gD s21 t17)) [(aL (gD s21 t17))] hO rfl ?_
    obtain ⟨x7, hx8, h1⟩ := aX h1
    refine cF (eq2_h (gD t15 t17) (gD s21 t17) _ hx8) hO ?_
    intro H hO
    refine bF ?_
    replace hO := hO.pick (L' := []) [] (by decide) (by kernel_rfl)
    refine bV [8, 9] [(30, (aK (!x7)))] ?_
    refine bJ h1 (fun h1 => ?_) (fun h1 => ?_)
    · refine bU aG 1 [(6, (aK false))] ?_
      refine bK ?_
      obtain rfl := oI h1
      obtain rfl : _ = rr0 := ho0
      replace h0 : some false = some r := h0
      obtain rfl := oI h0
      exact aJ (bR (aS (aS (bR (aS (Q_r hO))))))
    refine bL ?_
    refine cX [(1, (eL aL s21)), (2, (.fn (.func eq2_f) eq2_a eq2_c)), (15, (eL aL t15)), (16, (eI t16)), (17, (eI t17))] ?_
    refine aJ (aW (aI (?_)))
    refine aU aG 2 ?_
    refine bF ?_
    exact aJ (aI (⟨rfl, _, (oI h1).symm, .eq (by kernel_rfl), hO⟩))
  refine cY 0 ?_
  obtain rfl := oI h1
  obtain rfl : _ = rr0 := ho0
  replace h0 : cK eq2  = some r := h0
  exact aJ (aT (aT (bO (aI (⟨rfl, .eq (by kernel_rfl), hO, h0⟩)))))

theorem RT (x0 : aN) (y1 : aN) (r : Bool) (h0 : oX x0 y1 = some r) : bY Tryz.prog 41 [(aL x0), (aL y1)] (aK r) := by
  intro H0
  refine cG Tryz.func41 ?_
  have hO := aM.start H0
  unfold oX at h0
  refine aP ?_
  refine aU aG 3 ?_
  refine fS 3 (aL x0) (by kernel_rfl) (by kernel_rfl) ?_
  refine fS 3 (aL y1) (by kernel_rfl) (by kernel_rfl) ?_
  refine bF ?_
  refine bG [(2, (.rp (aL x0))), (3, (.rp (aL y1)))] ?_
  refine aP ?_
  refine aU aG 13 ?_
  refine bS 10 ?_
  obtain ⟨x1, hx2, h0⟩ := aX h0
  refine gI [(10, true)] 42 [(eL aH x0.Row), (eL aH y1.Row)] (aK x1) ((decide (x0.Span.From = y1.Span.From)) && ((decide (x0.Span.To = y1.Span.To)) && true)) (by kernel_rfl) (by kernel_rfl) (by kernel_rfl) (fun hb3 => (MQ x0.Row y1.Row _ (fW hx2 hb3))) hO ?_
  intro H hO
  refine bF ?_
  refine bG [(4, (aK (((decide (x0.Span.From = y1.Span.From)) && ((decide (x0.Span.To = y1.Span.To)) && true)) && x1)))] ?_
  refine bK ?_
  obtain rfl := oI h0
  exact aJ (Q_r hO)

theorem VZ (a0 : (List aN)) (b1 : (List aN)) (r : Bool) (h0 : uS a0 b1 = some r) : bY Tryz.prog 17 [(eL aL a0), (eL aL b1)] (aK r) := by
  intro H0
  refine cG Tryz.func17 ?_
  have hO := aM.start H0
  unfold uS at h0
  refine aZ aG 1 [] [] ?_
  refine aP ?_
  refine aU aG 4 ?_
  refine bS 2 ?_
  obtain ⟨x1, hx2, h0⟩ := aX h0
  refine cF (nN a0 b1 41 [] [] (fun y0 y1 => oX y0 y1) (fun y0 y1 r h => RT y0 y1 r h) _ hx2) hO ?_
  intro H hO
  refine bF ?_
  refine bG [(4, (aK x1))] ?_
  refine bK ?_
  obtain rfl := oI h0
  exact aJ (Q_r hO)

theorem AR (a0 : (List aF)) (b1 : (List aF)) (r : Bool) (h0 : oN a0 b1 = some r) : bY Tryz.prog 30 [(eL aH a0), (eL aH b1)] (aK r) := by
  intro H0
  refine cG Tryz.func30 ?_
  have hO := aM.start H0
  unfold oN at h0
  refine aZ aG 1 [] [] ?_
  refine aP ?_
  refine aZ aG 5 [] [(10, (aK (!decide ((lN a0) = (lN b1)))))] ?_
  refine bJ h0 (fun h0 => ?_) (fun h0 => ?_)
  · refine bU aG 1 [(4, (aK false))] ?_
    refine bK ?_
    obtain rfl := oI h0
    exact aJ (aS (Q_r hO))
  refine bL ?_
  refine bG [(0, (eL aH a0)), (1, (eL aH b1))] ?_
  refine cR (fun T H => Has T [] ∧ aM ⟨H0, [], []⟩ H [] ∧ uC  = some r) ?_ ?_
  · clear hO h0
    rintro T H ⟨hT, hO, h0⟩
    refine bB hT ?_
    clear hT
    unfold uC at h0
    refine bU aG 1 [(4, (aK true))] ?_
    refine bK ?_
    obtain rfl := oI h0
    exact aJ (Q_r hO)
  refine aZ aG 1 [] [(5, (eI (0 : Int)))] ?_
  refine bT 0 ?_
  refine cT [(0, (eL aH a0)), (1, (eL aH b1)), (5, (eI (0 : Int)))] ?_
  refine cH (fun T H => ∃ i5 : Int, Has T [(0, (eL aH a0)), (1, (eL aH b1)), (5, (eI i5))] ∧ aM ⟨H0, [], []⟩ H [] ∧ zC a0 b1 i5 = some r) ?_ ⟨(0 : Int), .eq (by kernel_rfl), hO, h0⟩
  clear hO h0
  rintro T H ⟨i5, hT, hO, h0⟩
  refine bB hT ?_
  clear hT
  unfold zC at h0
  obtain ⟨rr0, hl0, h0⟩ := aX h0
  refine bZ (by kernel_rfl) (fun (s : Int) T H => Has T [(0, (eL aH a0)), (1, (eL aH b1)), (5, (eI s))] ∧ aM ⟨H0, [], []⟩ H []) hl0 ⟨.eq (by kernel_rfl), hO⟩ ?_
  clear hO
  rintro k0 s out1 T H ⟨hT, hO⟩ h1 ho0
  obtain ⟨i5, rfl⟩ : ∃ x, x = s := ⟨_, rfl⟩
  replace h1 : qT a0 b1 i5 = some out1 := h1
  refine bB hT ?_
  clear hT
  unfold qT at h1
  refine aP ?_
  refine aZ aG 4 [] [(14, (aK (decide (i5 < (lN a0)))))] ?_
  refine bJ h1 (fun h1 => ?_) (fun h1 => ?_)
  · refine bL ?_
    refine bG [(0, (eL aH a0)), (1, (eL aH b1)), (5, (eI i5))] ?_
    refine aP ?_
    refine bT 1 ?_
    refine aP ?_
    refine fQ (fP [20, 24]) aG 9 ?_
    obtain ⟨c3, h1⟩ := bH h1
    obtain ⟨c4, h1⟩ := bH h1
    refine EW (Ds := [0 ≤ i5 ∧ i5 < (lN a0), 0 ≤ i5 ∧ i5 < (lN b1)]) (by kernel_rfl) ⟨c3, c4, trivial⟩ ?_
    refine bV [] [(25, (aK (!((decide (((gD a0 i5).Kind) = ((gD b1 i5).Kind))) && ((decide (((gD a0 i5).Num) = ((gD b1 i5).Num))) && ((oJ ((gD a0 i5).Text) ((gD b1 i5).Text)) && true))))))] ?_
    refine bJ h1 (fun h1 => ?_) (fun h1 => ?_)
    · refine bU aG 1 [(4, (aK false))] ?_
      refine bK ?_
      obtain rfl := oI h1
      obtain rfl : _ = rr0 := ho0
      replace h0 : some false = some r := h0
      obtain rfl := oI h0
      exact aJ (bR (aS (aS (bR (aS (Q_r hO))))))
    refine bL ?_
    refine cX [(0, (eL aH a0)), (1, (eL aH b1)), (5, (eI i5))] ?_
    refine aJ (aW (aI (?_)))
    refine aU aG 3 ?_
    refine bF ?_
    exact aJ (aI (⟨rfl, _, (oI h1).symm, .eq (by kernel_rfl), hO⟩))
  refine cY 0 ?_
  obtain rfl := oI h1
  obtain rfl : _ = rr0 := ho0
  replace h0 : uC  = some r := h0
  exact aJ (aT (aT (bO (aI (⟨rfl, .eq (by kernel_rfl), hO, h0⟩)))))

theorem IY (a0 : (List aN)) (b1 : (List aN)) (r : Bool) (h0 : qH a0 b1 = some r) : bY Tryz.prog 9 [(eL aL a0), (eL aL b1)] (aK r) := by
  intro H0
  refine cG Tryz.func9 ?_
  have hO := aM.start H0
  unfold qH at h0
  refine aZ aG 1 [] [] ?_
  refine aP ?_
  refine aZ aG 5 [] [(10, (aK (!decide ((lN a0) = (lN b1)))))] ?_
  refine bJ h0 (fun h0 => ?_) (fun h0 => ?_)
  · refine bU aG 1 [(4, (aK false))] ?_
    refine bK ?_
    obtain rfl := oI h0
    exact aJ (aS (Q_r hO))
  refine bL ?_
  refine bG [(0, (eL aL a0)), (1, (eL aL b1))] ?_
  refine cR (fun T H => Has T [] ∧ aM ⟨H0, [], []⟩ H [] ∧ uD  = some r) ?_ ?_
  · clear hO h0
    rintro T H ⟨hT, hO, h0⟩
    refine bB hT ?_
    clear hT
    unfold uD at h0
    refine bU aG 1 [(4, (aK true))] ?_
    refine bK ?_
    obtain rfl := oI h0
    exact aJ (Q_r hO)
  refine aZ aG 1 [] [(5, (eI (0 : Int)))] ?_
  refine bT 0 ?_
  refine cT [(0, (eL aL a0)), (1, (eL aL b1)), (5, (eI (0 : Int)))] ?_
  refine cH (fun T H => ∃ i5 : Int, Has T [(0, (eL aL a0)), (1, (eL aL b1)), (5, (eI i5))] ∧ aM ⟨H0, [], []⟩ H [] ∧ zA a0 b1 i5 = some r) ?_ ⟨(0 : Int), .eq (by kernel_rfl), hO, h0⟩
  clear hO h0
  rintro T H ⟨i5, hT, hO, h0⟩
  refine bB hT ?_
  clear hT
  unfold zA at h0
  obtain ⟨rr0, hl0, h0⟩ := aX h0
  refine bZ (by kernel_rfl) (fun (s : Int) T H => Has T [(0, (eL aL a0)), (1, (eL aL b1)), (5, (eI s))] ∧ aM ⟨H0, [], []⟩ H []) hl0 ⟨.eq (by kernel_rfl), hO⟩ ?_
  clear hO
  rintro k0 s out1 T H ⟨hT, hO⟩ h1 ho0
  obtain ⟨i5, rfl⟩ : ∃ x, x = s := ⟨_, rfl⟩
  replace h1 : qZ a0 b1 i5 = some out1 := h1
  refine bB hT ?_
  clear hT
  unfold qZ at h1
  refine aP ?_
  refine aZ aG 4 [] [(14, (aK (decide (i5 < (lN a0)))))] ?_
  refine bJ h1 (fun h1 => ?_) (fun h1 => ?_)
  · refine bL ?_
    refine bG [(0, (eL aL a0)), (1, (eL aL b1)), (5, (eI i5))] ?_
    refine aP ?_
    refine bT 1 ?_
    refine aP ?_
    obtain ⟨c3, h1⟩ := bH h1
    obtain ⟨c4, h1⟩ := bH h1
    obtain ⟨c5, h1⟩ := bH h1
    obtain ⟨c6, h1⟩ := bH h1
    obtain ⟨x7, hx8, h1⟩ := aX h1
    refine fQ (fP [21, 26, 33, 38]) aG 25 ?_
    refine wK (K := fun T H => Has (lift T) [(0, (eL aL a0)), (1, (eL aL b1)), (5, (eI i5)), (41, (aK ((!((decide ((((gD a0 i5).Span).From) = (((gD b1 i5).Span).From))) && ((decide ((((gD a0 i5).Span).To) = (((gD b1 i5).Span).To))) && true))) || (!x7))))] ∧ aM ⟨H0, [], []⟩ H []) ?_ ?_
    · refine cZ 12 [0 ≤ i5 ∧ i5 < (lN a0), 0 ≤ i5 ∧ i5 < (lN b1)] ⟨c3, c4, trivial⟩ ?_
      refine rA (t := 28) (e := !((decide ((((gD a0 i5).Span).From) = (((gD b1 i5).Span).From))) && ((decide ((((gD a0 i5).Span).To) = (((gD b1 i5).Span).To))) && true))) (by kernel_rfl) (fun hg9 => ?_) (fun hg9 => ?_)
      · refine jO ?_
        exact ⟨⟨[(0, (eL aL a0)), (1, (eL aL b1)), (5, (eI i5)), (41, (aK true))], by kernel_rfl, rfl, ⟨aV.refl _, aV.refl _, aV.refl _, aV.eq (congrArg aK (xR hg9 rfl).symm), trivial⟩⟩, hO⟩
      refine cZ 22 [0 ≤ i5 ∧ i5 < (lN a0), 0 ≤ i5 ∧ i5 < (lN b1)] ⟨(c5 (wV hg9)), (c6 (wV hg9)), trivial⟩ ?_
      refine zW 30 [(eL aH ((gD a0 i5).Row)), (eL aH ((gD b1 i5).Row))] (aK x7) (by kernel_rfl) (by kernel_rfl) (AR ((gD a0 i5).Row) ((gD b1 i5).Row) _ (fW hx8 (wV hg9))) hO ?_
      intro H hO
      refine jO ?_
      exact ⟨⟨[(0, (eL aL a0)), (1, (eL aL b1)), (5, (eI i5)), (41, (aK (!x7)))], by kernel_rfl, rfl, ⟨aV.refl _, aV.refl _, aV.refl _, aV.eq (congrArg aK (xR hg9 rfl).symm), trivial⟩⟩, hO⟩
    · rintro T H ⟨hT, hO⟩
      refine cP hT ?_
      clear hT
      refine aJ (aI ?_)
      refine bJ h1 (fun h1 => ?_) (fun h1 => ?_)
      · refine bU aG 1 [(4, (aK false))] ?_
        refine bK ?_
        obtain rfl := oI h1
        obtain rfl : _ = rr0 := ho0
        replace h0 : some false = some r := h0
        obtain rfl := oI h0
        exact aJ (bR (aS (aS (bR (aS (Q_r hO))))))
      refine bL ?_
      refine cX [(0, (eL aL a0)), (1, (eL aL b1)), (5, (eI i5))] ?_
      refine aJ (aW (aI (?_)))
      refine aU aG 3 ?_
      refine bF ?_
      exact aJ (aI (⟨rfl, _, (oI h1).symm, .eq (by kernel_rfl), hO⟩))
  refine cY 0 ?_
  obtain rfl := oI h1
  obtain rfl : _ = rr0 := ho0
  replace h0 : uD  = some r := h0
  exact aJ (aT (aT (bO (aI (⟨rfl, .eq (by kernel_rfl), hO, h0⟩)))))

theorem EF  (r : Bool) (h0 : qJ  = some r) : bY Tryz.prog 6 [] (aK r) := by
  intro H0
  refine cG Tryz.func6 ?_
  have hO := aM.start H0
  unfold qJ at h0
  refine bU aG 1 [] ?_
  refine aP ?_
  refine aU aG 9 ?_
  obtain ⟨x1, hx2, h0⟩ := aX h0
  refine cF (oH (5 : Int) (9 : Int) _ hx2) hO ?_
  intro H hO
  obtain ⟨x4, hx5, h0⟩ := aX h0
  refine cF (oH (2 : Int) (5 : Int) _ hx5) hO ?_
  intro H hO
  refine nP (xs := [(aL x1), (aL x4)]) (k := 3) (by kernel_rfl) (by kernel_rfl) ?_
  obtain ⟨x7, hx8, h0⟩ := aX h0
  refine aC1 13 [(dH [(aL x1), (aL x4)])] (.tup [(eL aL x7.1), (eI x7.2)]) (bY.sub (LA ([x1, x4]) _ hx8) ⟨DV (l := [x1, x4]), trivial⟩) hO ?_
  intro H hO
  refine bF ?_
  refine bG [(1, (eL aL x7.1)), (2, (eI x7.2))] ?_
  refine aP ?_
  refine aU aG 9 ?_
  obtain ⟨x10, hx11, h0⟩ := aX h0
  refine cF (oH (1 : Int) (10 : Int) _ hx11) hO ?_
  intro H hO
  obtain ⟨x13, hx14, h0⟩ := aX h0
  refine cF (oH (3 : Int) (5 : Int) _ hx14) hO ?_
  intro H hO
  refine nP (xs := [(aL x10), (aL x13)]) (k := 3) (by kernel_rfl) (by kernel_rfl) ?_
  obtain ⟨x16, hx17, h0⟩ := aX h0
  refine aC1 13 [(dH [(aL x10), (aL x13)])] (.tup [(eL aL x16.1), (eI x16.2)]) (bY.sub (LA ([x10, x13]) _ hx17) ⟨DV (l := [x10, x13]), trivial⟩) hO ?_
  intro H hO
  refine bF ?_
  refine bV [] [(3, (eL aL x16.1)), (4, (eI x16.2))] ?_
  refine aP ?_
  refine aU aG 29 ?_
  refine bS 8 ?_
  obtain ⟨x19, hx20, h0⟩ := aX h0
  refine gI [(25, true)] 18 [(eI (2 : Int)), (eI (9 : Int))] (aL x19) ((decide (x7.2 = (0 : Int))) && (decide (x16.2 = (0 : Int)))) (by kernel_rfl) (by kernel_rfl) (by kernel_rfl) (fun hb21 => (oH (2 : Int) (9 : Int) _ (fW hx20 hb21))) hO ?_
  intro H hO
  refine aAQ [(25, true)] [(aL x19)] (by kernel_rfl) (by kernel_rfl) ?_
  obtain ⟨x22, hx23, h0⟩ := aX h0
  refine gI [(25, true)] 17 [(eL aL x7.1), (dH [(aL x19)])] (aK x22) ((decide (x7.2 = (0 : Int))) && (decide (x16.2 = (0 : Int)))) (by kernel_rfl) (by kernel_rfl) (by kernel_rfl) (fun hb24 => (bY.sub (VZ x7.1 ([x19]) _ (fW hx23 hb24)) ⟨aV.refl _, DV (l := [x19]), trivial⟩)) hO ?_
  intro H hO
  refine bS 14 ?_
  obtain ⟨x25, hx26, h0⟩ := aX h0
  refine gI [(31, true)] 18 [(eI (1 : Int)), (eI (5 : Int))] (aL x25) (((decide (x7.2 = (0 : Int))) && (decide (x16.2 = (0 : Int)))) && x22) (by kernel_rfl) (by kernel_rfl) (by kernel_rfl) (fun hb27 => (oH (1 : Int) (5 : Int) _ (fW hx26 hb27))) hO ?_
  intro H hO
  obtain ⟨x28, hx29, h0⟩ := aX h0
  refine gI [(31, true)] 18 [(eI (3 : Int)), (eI (10 : Int))] (aL x28) (((decide (x7.2 = (0 : Int))) && (decide (x16.2 = (0 : Int)))) && x22) (by kernel_rfl) (by kernel_rfl) (by kernel_rfl) (fun hb30 => (oH (3 : Int) (10 : Int) _ (fW hx29 hb30))) hO ?_
  intro H hO
  refine aAQ [(31, true)] [(aL x25), (aL x28)] (by kernel_rfl) (by kernel_rfl) ?_
  obtain ⟨x31, hx32, h0⟩ := aX h0
  refine gI [(31, true)] 9 [(eL aL x16.1), (dH [(aL x25), (aL x28)])] (aK x31) (((decide (x7.2 = (0 : Int))) && (decide (x16.2 = (0 : Int)))) && x22) (by kernel_rfl) (by kernel_rfl) (by kernel_rfl) (fun hb33 => (bY.sub (IY x16.1 ([x25, x28]) _ (fW hx32 hb33)) ⟨aV.refl _, DV (l := [x25, x28]), trivial⟩)) hO ?_
  intro H hO
  refine bS 20 ?_
  obtain ⟨x34, hx35, h0⟩ := aX h0
  refine gI [(38, true)] 18 [(eI (-1 : Int)), (eI (0 : Int))] (aL x34) ((((decide (x7.2 = (0 : Int))) && (decide (x16.2 = (0 : Int)))) && x22) && x31) (by kernel_rfl) (by kernel_rfl) (by kernel_rfl) (fun hb36 => (oH (-1 : Int) (0 : Int) _ (fW hx35 hb36))) hO ?_
  intro H hO
  obtain ⟨x37, hx38, h0⟩ := aX h0
  refine gI [(38, true)] 15 [(aL x34)] (aK x37) ((((decide (x7.2 = (0 : Int))) && (decide (x16.2 = (0 : Int)))) && x22) && x31) (by kernel_rfl) (by kernel_rfl) (by kernel_rfl) (fun hb39 => (HK x34 _ (fW hx38 hb39))) hO ?_
  intro H hO
  refine bS 24 ?_
  obtain ⟨x40, hx41, h0⟩ := aX h0
  refine gI [(42, true)] 18 [(eI (3 : Int)), (eI (3 : Int))] (aL x40) (((((decide (x7.2 = (0 : Int))) && (decide (x16.2 = (0 : Int)))) && x22) && x31) && x37) (by kernel_rfl) (by kernel_rfl) (by kernel_rfl) (fun hb42 => (oH (3 : Int) (3 : Int) _ (fW hx41 hb42))) hO ?_
  intro H hO
  obtain ⟨x43, hx44, h0⟩ := aX h0
  refine gI [(42, true)] 15 [(aL x40)] (aK x43) (((((decide (x7.2 = (0 : Int))) && (decide (x16.2 = (0 : Int)))) && x22) && x31) && x37) (by kernel_rfl) (by kernel_rfl) (by kernel_rfl) (fun hb45 => (HK x40 _ (fW hx44 hb45))) hO ?_
  intro H hO
  refine bF ?_
  refine bG [(0, (aK ((((((decide (x7.2 = (0 : Int))) && (decide (x16.2 = (0 : Int)))) && x22) && x31) && x37) && (!x43))))] ?_
  refine bK ?_
  obtain rfl := oI h0
  exact aJ (Q_r hO)

theorem FN (v0 : aF) (r : Bool) (h0 : rW v0 = some r) : bY Tryz.prog 72 [(aH v0)] (aK r) := by
  intro H0
  refine cG Tryz.func72 ?_
  have hO := aM.start H0
  unfold rW at h0
  refine aP ?_
  refine aU aG 2 ?_
  refine fS 3 (aH v0) (by kernel_rfl) (by kernel_rfl) ?_
  refine bF ?_
  refine bG [(1, (.rp (aH v0)))] ?_
  refine aP ?_
  refine aZ aG 3 [] [(5, (aK (decide (v0.Kind = (1 : Int)))))] ?_
  refine bJ h0 (fun h0 => ?_) (fun h0 => ?_)
  · refine bU aG 4 [(2, (aK (oJ v0.Text (⟨#[]⟩ : ByteArray))))] ?_
    refine bK ?_
    obtain rfl := oI h0
    exact aJ (aS (Q_r hO))
  refine bL ?_
  refine bG [(1, (.rp (aH v0)))] ?_
  refine bU aG 15 [(2, (aK (((decide (v0.Kind = (2 : Int))) && (decide (v0.Num = (0 : Int)))) && (decide (((ByteArray.size v0.Text : Nat) : Int) ≤ (64 : Int))))))] ?_
  refine bK ?_
  obtain rfl := oI h0
  exact aJ (Q_r hO)

theorem FX (r0 : (List aF)) (r : Bool) (h0 : rT r0 = some r) : bY Tryz.prog 37 [(eL aH r0)] (aK r) := by
  intro H0
  refine cG Tryz.func37 ?_
  have hO := aM.start H0
  unfold rT at h0
  refine aZ aG 1 [] [] ?_
  refine cR (fun T H => Has T [(0, (eL aH r0))] ∧ aM ⟨H0, [], []⟩ H [] ∧ sH r0 = some r) ?_ ?_
  · clear hO h0
    rintro T H ⟨hT, hO, h0⟩
    refine bB hT ?_
    clear hT
    unfold sH at h0
    refine bU aG 4 [(2, (aK (decide ((lN r0) ≤ (8 : Int)))))] ?_
    refine bK ?_
    obtain rfl := oI h0
    exact aJ (Q_r hO)
  refine aZ aG 1 [] [(3, (eI (0 : Int)))] ?_
  refine bT 0 ?_
  refine cT [(0, (eL aH r0)), (3, (eI (0 : Int)))] ?_
  refine cH (fun T H => ∃ i3 : Int, Has T [(0, (eL aH r0)), (3, (eI i3))] ∧ aM ⟨H0, [], []⟩ H [] ∧ AK r0 i3 = some r) ?_ ⟨(0 : Int), .eq (by kernel_rfl), hO, h0⟩
  clear hO h0
  rintro T H ⟨i3, hT, hO, h0⟩
  refine bB hT ?_
  clear hT
  unfold AK at h0
  obtain ⟨rr0, hl0, h0⟩ := aX h0
  refine bZ (by kernel_rfl) (fun (s : Int) T H => Has T [(0, (eL aH r0)), (3, (eI s))] ∧ aM ⟨H0, [], []⟩ H []) hl0 ⟨.eq (by kernel_rfl), hO⟩ ?_
  clear hO
  rintro k0 s out1 T H ⟨hT, hO⟩ h1 ho0
  obtain ⟨i3, rfl⟩ : ∃ x, x = s := ⟨_, rfl⟩
  replace h1 : pZ r0 i3 = some out1 := h1
  refine bB hT ?_
  clear hT
  unfold pZ at h1
  refine aP ?_
  refine aZ aG 8 [] [(11, (aK ((decide (i3 < (lN r0))) && (decide (i3 < (9 : Int))))))] ?_
  refine bJ h1 (fun h1 => ?_) (fun h1 => ?_)
  · refine bL ?_
    refine bG [(0, (eL aH r0)), (3, (eI i3))] ?_
    refine aP ?_
    refine bT 1 ?_
    refine aP ?_
    refine aU aG 6 ?_
    obtain ⟨c2, h1⟩ := bH h1
    refine mA 4 [0 ≤ i3 ∧ i3 < (lN r0)] ⟨c2, trivial⟩ ?_
    obtain ⟨x3, hx4, h1⟩ := aX h1
    refine cF (FN (gD r0 i3) _ hx4) hO ?_
    intro H hO
    refine bF ?_
    refine bV [] [(19, (aK (!x3)))] ?_
    refine bJ h1 (fun h1 => ?_) (fun h1 => ?_)
    · refine bU aG 1 [(2, (aK false))] ?_
      refine bK ?_
      obtain rfl := oI h1
      obtain rfl : _ = rr0 := ho0
      replace h0 : some false = some r := h0
      obtain rfl := oI h0
      exact aJ (bR (aS (aS (bR (aS (Q_r hO))))))
    refine bL ?_
    refine cX [(0, (eL aH r0)), (3, (eI i3))] ?_
    refine aJ (aW (aI (?_)))
    refine aU aG 3 ?_
    refine bF ?_
    exact aJ (aI (⟨rfl, _, (oI h1).symm, .eq (by kernel_rfl), hO⟩))
  refine cY 0 ?_
  obtain rfl := oI h1
  obtain rfl : _ = rr0 := ho0
  replace h0 : sH r0 = some r := h0
  exact aJ (aT (aT (bO (aI (⟨rfl, .eq (by kernel_rfl), hO, h0⟩)))))

theorem FW (f0 : (List aB)) (r : Bool) (h0 : pQ f0 = some r) : bY Tryz.prog 50 [(eL aD f0)] (aK r) := by
  intro H0
  refine cG Tryz.func50 ?_
  have hO := aM.start H0
  unfold pQ at h0
  refine aZ aG 1 [] [] ?_
  refine aP ?_
  refine aZ aG 3 [] [(6, (aK (decide ((1024 : Int) < (lN f0)))))] ?_
  refine bJ h0 (fun h0 => ?_) (fun h0 => ?_)
  · refine bU aG 1 [(2, (aK false))] ?_
    refine bK ?_
    obtain rfl := oI h0
    exact aJ (aS (Q_r hO))
  refine bL ?_
  refine bG [(0, (eL aD f0))] ?_
  refine cR (fun T H => Has T [] ∧ aM ⟨H0, [], []⟩ H [] ∧ wA  = some r) ?_ ?_
  · clear hO h0
    rintro T H ⟨hT, hO, h0⟩
    refine bB hT ?_
    clear hT
    unfold wA at h0
    refine bU aG 1 [(2, (aK true))] ?_
    refine bK ?_
    obtain rfl := oI h0
    exact aJ (Q_r hO)
  refine aZ aG 1 [] [(3, (eI (0 : Int)))] ?_
  refine bT 0 ?_
  refine cT [(0, (eL aD f0)), (3, (eI (0 : Int)))] ?_
  refine cH (fun T H => ∃ i3 : Int, Has T [(0, (eL aD f0)), (3, (eI i3))] ∧ aM ⟨H0, [], []⟩ H [] ∧ BA f0 i3 = some r) ?_ ⟨(0 : Int), .eq (by kernel_rfl), hO, h0⟩
  clear hO h0
  rintro T H ⟨i3, hT, hO, h0⟩
  refine bB hT ?_
  clear hT
  unfold BA at h0
  obtain ⟨rr0, hl0, h0⟩ := aX h0
  refine bZ (by kernel_rfl) (fun (s : Int) T H => Has T [(0, (eL aD f0)), (3, (eI s))] ∧ aM ⟨H0, [], []⟩ H []) hl0 ⟨.eq (by kernel_rfl), hO⟩ ?_
  clear hO
  rintro k0 s out1 T H ⟨hT, hO⟩ h1 ho0
  obtain ⟨i3, rfl⟩ : ∃ x, x = s := ⟨_, rfl⟩
  replace h1 : lR f0 i3 = some out1 := h1
  refine bB hT ?_
  clear hT
  unfold lR at h1
  refine aP ?_
  refine aZ aG 4 [] [(10, (aK (decide (i3 < (lN f0)))))] ?_
  refine bJ h1 (fun h1 => ?_) (fun h1 => ?_)
  · refine bL ?_
    refine bG [(0, (eL aD f0)), (3, (eI i3))] ?_
    refine aP ?_
    refine bT 1 ?_
    refine aP ?_
    refine aP ?_
    refine aU aG 38 ?_
    obtain ⟨c3, h1⟩ := bH h1
    obtain ⟨c4, h1⟩ := bH h1
    obtain ⟨c5, h1⟩ := bH h1
    obtain ⟨c6, h1⟩ := bH h1
    obtain ⟨c7, h1⟩ := bH h1
    refine tJ [0 ≤ i3 ∧ i3 < (lN f0), (((!(decide (((gD f0 i3).At) < (-1 : Int))))) = true → 0 ≤ i3 ∧ i3 < (lN f0)), (((!((decide (((gD f0 i3).At) < (-1 : Int))) || (decide ((1125899906842624 : Int) ≤ ((gD f0 i3).At)))))) = true → 0 ≤ i3 ∧ i3 < (lN f0)), (((!(((decide (((gD f0 i3).At) < (-1 : Int))) || (decide ((1125899906842624 : Int) ≤ ((gD f0 i3).At)))) || (decide (((gD f0 i3).Net) = (0 : Int)))))) = true → 0 ≤ i3 ∧ i3 < (lN f0)), (((!((((decide (((gD f0 i3).At) < (-1 : Int))) || (decide ((1125899906842624 : Int) ≤ ((gD f0 i3).At)))) || (decide (((gD f0 i3).Net) = (0 : Int)))) || (decide ((1048576 : Int) < ((gD f0 i3).Net)))))) = true → 0 ≤ i3 ∧ i3 < (lN f0))] ⟨c3, c4, c5, c6, c7, trivial⟩ ?_
    refine bV [] [(50, (aK (((((decide (((gD f0 i3).At) < (-1 : Int))) || (decide ((1125899906842624 : Int) ≤ ((gD f0 i3).At)))) || (decide (((gD f0 i3).Net) = (0 : Int)))) || (decide ((1048576 : Int) < ((gD f0 i3).Net)))) || (decide (((gD f0 i3).Net) < (-1048576 : Int))))))] ?_
    refine bJ h1 (fun h1 => ?_) (fun h1 => ?_)
    · refine bU aG 1 [(2, (aK false))] ?_
      refine bK ?_
      obtain rfl := oI h1
      obtain rfl : _ = rr0 := ho0
      replace h0 : some false = some r := h0
      obtain rfl := oI h0
      exact aJ (aS (bR (aS (aS (bR (aS (Q_r hO)))))))
    refine bL ?_
    refine bG [(0, (eL aD f0)), (3, (eI i3))] ?_
    refine aP ?_
    obtain ⟨c9, h1⟩ := bH h1
    obtain ⟨c10, h1⟩ := bH h1
    refine fQ (fP [58, 64]) aG 16 ?_
    refine wK (K := fun T H => Has (lift T) [(0, (eL aD f0)), (3, (eI i3)), (66, (aK ((decide ((0 : Int) < i3)) && (decide (((gD f0 i3).At) ≤ ((gD f0 (wR (i3 - (1 : Int)))).At))))))] ∧ aM ⟨H0, [], []⟩ H []) ?_ ?_
    · refine qG 3 ?_
      refine rA (t := 53) (e := decide ((0 : Int) < i3)) (by kernel_rfl) (fun hg11 => ?_) (fun hg11 => ?_)
      · refine EW (Ds := [0 ≤ i3 ∧ i3 < (lN f0), 0 ≤ (wR (i3 - (1 : Int))) ∧ (wR (i3 - (1 : Int))) < (lN f0)]) (by kernel_rfl) ⟨(c9 hg11), (c10 hg11), trivial⟩ ?_
        exact ⟨⟨[(0, (eL aD f0)), (3, (eI i3)), (66, (aK (decide (((gD f0 i3).At) ≤ ((gD f0 (wR (i3 - (1 : Int)))).At)))))], by kernel_rfl, rfl, ⟨aV.refl _, aV.refl _, aV.eq (congrArg aK (rZ hg11 rfl).symm), trivial⟩⟩, hO⟩
      refine jO ?_
      exact ⟨⟨[(0, (eL aD f0)), (3, (eI i3)), (66, (aK false))], by kernel_rfl, rfl, ⟨aV.refl _, aV.refl _, aV.eq (congrArg aK (rZ hg11 rfl).symm), trivial⟩⟩, hO⟩
    · rintro T H ⟨hT, hO⟩
      refine cP hT ?_
      clear hT
      refine aJ (aI ?_)
      refine bJ h1 (fun h1 => ?_) (fun h1 => ?_)
      · refine bU aG 1 [(2, (aK false))] ?_
        refine bK ?_
        obtain rfl := oI h1
        obtain rfl : _ = rr0 := ho0
        replace h0 : some false = some r := h0
        obtain rfl := oI h0
        exact aJ (bR (aS (aS (bR (aS (Q_r hO))))))
      refine bL ?_
      refine cX [(0, (eL aD f0)), (3, (eI i3))] ?_
      refine aJ (aW (aI (?_)))
      refine aU aG 3 ?_
      refine bF ?_
      exact aJ (aI (⟨rfl, _, (oI h1).symm, .eq (by kernel_rfl), hO⟩))
  refine cY 0 ?_
  obtain rfl := oI h1
  obtain rfl : _ = rr0 := ho0
  replace h0 : wA  = some r := h0
  exact aJ (aT (aT (bO (aI (⟨rfl, .eq (by kernel_rfl), hO, h0⟩)))))

theorem ND (a0 : aF) (b1 : aF) (r : Int) (h0 : rL a0 b1 = some r) : bY Tryz.prog 76 [(aH a0), (aH b1)] (eI r) := by
  intro H0
  refine cG Tryz.func76 ?_
  have hO := aM.start H0
  unfold rL at h0
  refine aP ?_
  refine aU aG 3 ?_
  refine fS 3 (aH a0) (by kernel_rfl) (by kernel_rfl) ?_
  refine fS 3 (aH b1) (by kernel_rfl) (by kernel_rfl) ?_
  refine bF ?_
  refine bG [(2, (.rp (aH a0))), (3, (.rp (aH b1)))] ?_
  refine aP ?_
  refine aP ?_
  refine aU aG 8 ?_
  refine bS 1 ?_
  obtain ⟨x1, hx2, h0⟩ := aX h0
  refine cF (FN a0 _ hx2) hO ?_
  intro H hO
  refine bS 5 ?_
  obtain ⟨x4, hx5, h0⟩ := aX h0
  refine gI [(9, false)] 72 [(aH b1)] (aK x4) (!(!x1)) (by kernel_rfl) (by kernel_rfl) (by kernel_rfl) (fun hb6 => (FN b1 _ (fW hx5 hb6))) hO ?_
  intro H hO
  refine bF ?_
  refine bV [] [(13, (aK ((!x1) || (!x4))))] ?_
  refine bJ h0 (fun h0 => ?_) (fun h0 => ?_)
  · refine bU aG 1 [(4, (eI (0 : Int)))] ?_
    refine bK ?_
    obtain rfl := oI h0
    exact aJ (aS (Q_r hO))
  refine bL ?_
  refine bG [(2, (.rp (aH a0))), (3, (.rp (aH b1)))] ?_
  refine aP ?_
  refine aZ aG 5 [] [(18, (aK (!decide (a0.Kind = b1.Kind))))] ?_
  refine bJ h0 (fun h0 => ?_) (fun h0 => ?_)
  · refine aP ?_
    refine bU aG 3 [(21, (aK (decide (a0.Kind = (1 : Int)))))] ?_
    refine bJ h0 (fun h0 => ?_) (fun h0 => ?_)
    · refine bU aG 1 [(4, (eI (-1 : Int)))] ?_
      refine bK ?_
      obtain rfl := oI h0
      exact aJ (aS (aS (Q_r hO)))
    refine bL ?_
    refine bG [] ?_
    refine bU aG 1 [(4, (eI (1 : Int)))] ?_
    refine bK ?_
    obtain rfl := oI h0
    exact aJ (aS (Q_r hO))
  refine bL ?_
  refine bG [(2, (.rp (aH a0))), (3, (.rp (aH b1)))] ?_
  refine aP ?_
  refine aZ aG 5 [] [(26, (aK (!decide (a0.Num = b1.Num))))] ?_
  refine bJ h0 (fun h0 => ?_) (fun h0 => ?_)
  · refine aP ?_
    refine bU aG 5 [(31, (aK (decide (a0.Num < b1.Num))))] ?_
    refine bJ h0 (fun h0 => ?_) (fun h0 => ?_)
    · refine bU aG 1 [(4, (eI (-1 : Int)))] ?_
      refine bK ?_
      obtain rfl := oI h0
      exact aJ (aS (aS (Q_r hO)))
    refine bL ?_
    refine bG [] ?_
    refine bU aG 1 [(4, (eI (1 : Int)))] ?_
    refine bK ?_
    obtain rfl := oI h0
    exact aJ (aS (Q_r hO))
  refine bL ?_
  refine bG [(2, (.rp (aH a0))), (3, (.rp (aH b1)))] ?_
  refine cR (fun T H => ∃ a2 : aF, ∃ b3 : aF, Has T [(2, (.rp (aH a2))), (3, (.rp (aH b3)))] ∧ aM ⟨H0, [], []⟩ H [] ∧ qD a2 b3 = some r) ?_ ?_
  · clear hO h0
    rintro T H ⟨a2, b3, hT, hO, h0⟩
    refine bB hT ?_
    clear hT
    unfold qD at h0
    refine aP ?_
    refine aZ aG 7 [] [(70, (aK (!decide (((ByteArray.size a2.Text : Nat) : Int) = ((ByteArray.size b3.Text : Nat) : Int)))))] ?_
    refine bJ h0 (fun h0 => ?_) (fun h0 => ?_)
    · refine aP ?_
      refine bU aG 7 [(77, (aK (decide (((ByteArray.size a2.Text : Nat) : Int) < ((ByteArray.size b3.Text : Nat) : Int)))))] ?_
      refine bJ h0 (fun h0 => ?_) (fun h0 => ?_)
      · refine bU aG 1 [(4, (eI (-1 : Int)))] ?_
        refine bK ?_
        obtain rfl := oI h0
        exact aJ (aS (aS (Q_r hO)))
      refine bL ?_
      refine bG [] ?_
      refine bU aG 1 [(4, (eI (1 : Int)))] ?_
      refine bK ?_
      obtain rfl := oI h0
      exact aJ (aS (Q_r hO))
    refine bL ?_
    refine bG [] ?_
    refine bU aG 1 [(4, (eI (0 : Int)))] ?_
    refine bK ?_
    obtain rfl := oI h0
    exact aJ (Q_r hO)
  refine aZ aG 1 [] [(5, (eI (0 : Int)))] ?_
  refine bT 0 ?_
  refine cT [(2, (.rp (aH a0))), (3, (.rp (aH b1))), (5, (eI (0 : Int)))] ?_
  refine cH (fun T H => ∃ a2 : aF, ∃ b3 : aF, ∃ i5 : Int, Has T [(2, (.rp (aH a2))), (3, (.rp (aH b3))), (5, (eI i5))] ∧ aM ⟨H0, [], []⟩ H [] ∧ tP a2 b3 i5 = some r) ?_ ⟨a0, b1, (0 : Int), .eq (by kernel_rfl), hO, h0⟩
  clear hO h0
  rintro T H ⟨a2, b3, i5, hT, hO, h0⟩
  refine bB hT ?_
  clear hT
  unfold tP at h0
  obtain ⟨rr0, hl0, h0⟩ := aX h0
  refine bZ (by kernel_rfl) (fun (s : Int) T H => Has T [(2, (.rp (aH a2))), (3, (.rp (aH b3))), (5, (eI s))] ∧ aM ⟨H0, [], []⟩ H []) hl0 ⟨.eq (by kernel_rfl), hO⟩ ?_
  clear hO
  rintro k0 s out1 T H ⟨hT, hO⟩ h1 ho0
  obtain ⟨i5, rfl⟩ : ∃ x, x = s := ⟨_, rfl⟩
  replace h1 : gC a2 b3 i5 = some out1 := h1
  refine bB hT ?_
  clear hT
  unfold gC at h1
  refine aP ?_
  refine aZ aG 12 [] [(43, (aK ((decide (i5 < ((ByteArray.size a2.Text : Nat) : Int))) && (decide (i5 < ((ByteArray.size b3.Text : Nat) : Int))))))] ?_
  refine bJ h1 (fun h1 => ?_) (fun h1 => ?_)
  · refine bL ?_
    refine bG [(2, (.rp (aH a2))), (3, (.rp (aH b3))), (5, (eI i5))] ?_
    refine aP ?_
    refine bT 1 ?_
    refine aP ?_
    refine fQ (fP [47, 51]) aG 9 ?_
    obtain ⟨c15, h1⟩ := bH h1
    obtain ⟨c16, h1⟩ := bH h1
    refine EW (Ds := [0 ≤ i5 ∧ i5 < ((ByteArray.size a2.Text : Nat) : Int), 0 ≤ i5 ∧ i5 < ((ByteArray.size b3.Text : Nat) : Int)]) (by kernel_rfl) ⟨c15, c16, trivial⟩ ?_
    refine bV [] [(54, (aK (!decide ((bt a2.Text i5) = (bt b3.Text i5)))))] ?_
    refine bJ h1 (fun h1 => ?_) (fun h1 => ?_)
    · refine aP ?_
      refine aP ?_
      refine fQ (fP [56, 60]) aG 9 ?_
      obtain ⟨c18, h1⟩ := bH h1
      obtain ⟨c19, h1⟩ := bH h1
      refine EW (Ds := [0 ≤ i5 ∧ i5 < ((ByteArray.size a2.Text : Nat) : Int), 0 ≤ i5 ∧ i5 < ((ByteArray.size b3.Text : Nat) : Int)]) (by kernel_rfl) ⟨c18, c19, trivial⟩ ?_
      refine bG [(63, (aK (decide ((bt a2.Text i5) < (bt b3.Text i5)))))] ?_
      refine bJ h1 (fun h1 => ?_) (fun h1 => ?_)
      · refine bU aG 1 [(4, (eI (-1 : Int)))] ?_
        refine bK ?_
        obtain rfl := oI h1
        obtain rfl : _ = rr0 := ho0
        replace h0 : some (-1 : Int) = some r := h0
        obtain rfl := oI h0
        exact aJ (aS (bR (aS (aS (bR (aS (Q_r hO)))))))
      refine bL ?_
      refine bG [] ?_
      refine bU aG 1 [(4, (eI (1 : Int)))] ?_
      refine bK ?_
      obtain rfl := oI h1
      obtain rfl : _ = rr0 := ho0
      replace h0 : some (1 : Int) = some r := h0
      obtain rfl := oI h0
      exact aJ (bR (aS (aS (bR (aS (Q_r hO))))))
    refine bL ?_
    refine cX [(2, (.rp (aH a2))), (3, (.rp (aH b3))), (5, (eI i5))] ?_
    refine aJ (aW (aI (?_)))
    refine aU aG 3 ?_
    refine bF ?_
    exact aJ (aI (⟨rfl, _, (oI h1).symm, .eq (by kernel_rfl), hO⟩))
  refine cY 0 ?_
  obtain rfl := oI h1
  obtain rfl : _ = rr0 := ho0
  replace h0 : qD a2 b3 = some r := h0
  exact aJ (aT (aT (bO (aI (⟨rfl, _, _, .eq (by kernel_rfl), hO, h0⟩)))))

theorem FF (a0 : (List aF)) (b1 : (List aF)) (r : Int) (h0 : oR a0 b1 = some r) : bY Tryz.prog 51 [(eL aH a0), (eL aH b1)] (eI r) := by
  intro H0
  refine cG Tryz.func51 ?_
  have hO := aM.start H0
  unfold oR at h0
  refine aZ aG 1 [] [] ?_
  refine aP ?_
  refine aP ?_
  refine aU aG 8 ?_
  refine bS 1 ?_
  obtain ⟨x1, hx2, h0⟩ := aX h0
  refine cF (FX a0 _ hx2) hO ?_
  intro H hO
  refine bS 5 ?_
  obtain ⟨x4, hx5, h0⟩ := aX h0
  refine gI [(10, false)] 37 [(eL aH b1)] (aK x4) (!(!x1)) (by kernel_rfl) (by kernel_rfl) (by kernel_rfl) (fun hb6 => (FX b1 _ (fW hx5 hb6))) hO ?_
  intro H hO
  refine bF ?_
  refine bV [] [(14, (aK ((!x1) || (!x4))))] ?_
  refine bJ h0 (fun h0 => ?_) (fun h0 => ?_)
  · refine bU aG 1 [(4, (eI (0 : Int)))] ?_
    refine bK ?_
    obtain rfl := oI h0
    exact aJ (aS (Q_r hO))
  refine bL ?_
  refine bG [(0, (eL aH a0)), (1, (eL aH b1))] ?_
  refine cR (fun T H => Has T [(0, (eL aH a0)), (1, (eL aH b1))] ∧ aM ⟨H0, [], []⟩ H [] ∧ qB a0 b1 = some r) ?_ ?_
  · clear hO h0
    rintro T H ⟨hT, hO, h0⟩
    refine bB hT ?_
    clear hT
    unfold qB at h0
    refine aP ?_
    refine aZ aG 5 [] [(43, (aK (decide ((lN a0) < (lN b1)))))] ?_
    refine bJ h0 (fun h0 => ?_) (fun h0 => ?_)
    · refine bU aG 1 [(4, (eI (-1 : Int)))] ?_
      refine bK ?_
      obtain rfl := oI h0
      exact aJ (aS (Q_r hO))
    refine bL ?_
    refine bG [(0, (eL aH a0)), (1, (eL aH b1))] ?_
    refine aP ?_
    refine bU aG 5 [(48, (aK (decide ((lN b1) < (lN a0)))))] ?_
    refine bJ h0 (fun h0 => ?_) (fun h0 => ?_)
    · refine bU aG 1 [(4, (eI (1 : Int)))] ?_
      refine bK ?_
      obtain rfl := oI h0
      exact aJ (aS (Q_r hO))
    refine bL ?_
    refine bG [] ?_
    refine bU aG 1 [(4, (eI (0 : Int)))] ?_
    refine bK ?_
    obtain rfl := oI h0
    exact aJ (Q_r hO)
  refine aZ aG 1 [] [(5, (eI (0 : Int)))] ?_
  refine bT 0 ?_
  refine cT [(0, (eL aH a0)), (1, (eL aH b1)), (5, (eI (0 : Int)))] ?_
  refine cH (fun T H => ∃ i5 : Int, Has T [(0, (eL aH a0)), (1, (eL aH b1)), (5, (eI i5))] ∧ aM ⟨H0, [], []⟩ H [] ∧ tE a0 b1 i5 = some r) ?_ ⟨(0 : Int), .eq (by kernel_rfl), hO, h0⟩
  clear hO h0
  rintro T H ⟨i5, hT, hO, h0⟩
  refine bB hT ?_
  clear hT
  unfold tE at h0
  obtain ⟨rr0, hl0, h0⟩ := aX h0
  refine bZ (by kernel_rfl) (fun (s : Int) T H => Has T [(0, (eL aH a0)), (1, (eL aH b1)), (5, (eI s))] ∧ aM ⟨H0, [], []⟩ H []) hl0 ⟨.eq (by kernel_rfl), hO⟩ ?_
  clear hO
  rintro k0 s out1 T H ⟨hT, hO⟩ h1 ho0
  obtain ⟨i5, rfl⟩ : ∃ x, x = s := ⟨_, rfl⟩
  replace h1 : gE a0 b1 i5 = some out1 := h1
  refine bB hT ?_
  clear hT
  unfold gE at h1
  refine aP ?_
  refine aZ aG 10 [] [(24, (aK ((decide (i5 < (lN a0))) && (decide (i5 < (lN b1))))))] ?_
  refine bJ h1 (fun h1 => ?_) (fun h1 => ?_)
  · refine bL ?_
    refine bG [(0, (eL aH a0)), (1, (eL aH b1)), (5, (eI i5))] ?_
    refine aP ?_
    refine bT 1 ?_
    refine aP ?_
    refine fQ (fP [30, 34, 35]) aG 10 ?_
    obtain ⟨c11, h1⟩ := bH h1
    obtain ⟨c12, h1⟩ := bH h1
    refine cZ 8 [0 ≤ i5 ∧ i5 < (lN a0), 0 ≤ i5 ∧ i5 < (lN b1)] ⟨c11, c12, trivial⟩ ?_
    obtain ⟨x13, hx14, h1⟩ := aX h1
    refine zK (ND (gD a0 i5) (gD b1 i5) _ hx14) hO ?_
    intro H hO
    refine jO ?_
    refine bV [] [(6, (eI x13))] ?_
    refine aZ aG 2 [] [(37, (aK (!decide (x13 = (0 : Int)))))] ?_
    refine bJ h1 (fun h1 => ?_) (fun h1 => ?_)
    · refine bU aG 2 [(4, (eI x13))] ?_
      refine bK ?_
      obtain rfl := oI h1
      obtain rfl : _ = rr0 := ho0
      replace h0 : some x13 = some r := h0
      obtain rfl := oI h0
      exact aJ (bR (aS (aS (bR (aS (Q_r hO))))))
    refine bL ?_
    refine cX [(0, (eL aH a0)), (1, (eL aH b1)), (5, (eI i5))] ?_
    refine aJ (aW (aI (?_)))
    refine aU aG 3 ?_
    refine bF ?_
    exact aJ (aI (⟨rfl, _, (oI h1).symm, .eq (by kernel_rfl), hO⟩))
  refine cY 0 ?_
  obtain rfl := oI h1
  obtain rfl : _ = rr0 := ho0
  replace h0 : qB a0 b1 = some r := h0
  exact aJ (aT (aT (bO (aI (⟨rfl, .eq (by kernel_rfl), hO, h0⟩)))))

theorem EJ (l0 : (List aC)) (r : (List (List aF))) (h0 : qC l0 = some r) : bY Tryz.prog 27 [(eL aE l0)] (eL (eL aH) r) := by
  intro H0
  refine cG Tryz.func27 ?_
  have hO := aM.start H0
  unfold qC at h0
  refine aZ aG 1 [] [] ?_
  refine aP ?_
  refine aU aG 2 ?_
  refine nP (xs := []) (k := 1) (by kernel_rfl) (by kernel_rfl) ?_
  refine bF ?_
  refine bV [] [(3, (.sl true 0 (fun _ => .bad)))] ?_
  refine cR (fun T H => ∃ bP : List (List aF), ∃ lo1 : Nat, Has T [(3, (.msl 1 lo1 0 (List.length bP)))] ∧ aM ⟨H0, [], []⟩ H [(lo1, 1, List.map (eL aH) bP)] ∧ zI bP = some r) ?_ ?_
  · clear hO h0
    rintro T H ⟨bP, lo1, hT, hO, h0⟩
    refine bB hT ?_
    clear hT
    unfold zI at h0
    refine bU aG 2 [(2, (.msl 1 lo1 0 (List.length bP)))] ?_
    refine bK ?_
    refine cX [(2, (.msl 1 lo1 0 (List.length bP)))] ?_
    refine vP (en := (eL aH)) bP 0 0 2 1 lo1 (List.length bP) hO (by kernel_rfl) (by kernel_rfl) (by kernel_rfl) (L' := []) (by kernel_rfl) ?_
    intro H2 hO
    obtain rfl := oI h0
    exact aJ (Q_r hO)
  refine aZ aG 1 [] [(4, (eI (0 : Int)))] ?_
  refine bT 0 ?_
  refine cT [(0, (eL aE l0)), (3, (.sl true 0 (fun _ => .bad))), (4, (eI (0 : Int)))] ?_
  refine CO (el := (fun _ => .bad)) 1 3 1 hO (by kernel_rfl) ?_
  intro lo31 H32 hO
  refine cH (fun T H => ∃ bP : List (List aF), ∃ i4 : Int, ∃ lo4 : Nat, Has T [(0, (eL aE l0)), (3, (.msl 1 lo4 0 (List.length bP))), (4, (eI i4))] ∧ aM ⟨H0, [], []⟩ H [(lo4, 1, List.map (eL aH) bP)] ∧ yR l0 bP i4 = some r) ?_ ⟨([] : List (List aF)), (0 : Int), lo31, .eq (by kernel_rfl), hO, h0⟩
  clear hO h0
  rintro T H ⟨bP, i4, lo4, hT, hO, h0⟩
  refine bB hT ?_
  clear hT
  unfold yR at h0
  obtain ⟨rr0, hl0, h0⟩ := aX h0
  refine bZ (by kernel_rfl) (fun (s : List (List aF) × Int) T H => ∃ lo4 : Nat, Has T [(0, (eL aE l0)), (3, (.msl 1 lo4 0 (List.length s.1))), (4, (eI s.2))] ∧ aM ⟨H0, [], []⟩ H [(lo4, 1, List.map (eL aH) s.1)]) hl0 ⟨lo4, .eq (by kernel_rfl), hO⟩ ?_
  clear hO
  rintro k0 s out1 T H ⟨lo4, hT, hO⟩ h1 ho0
  obtain ⟨bP, i4⟩ := s
  replace h1 : nK l0 bP i4 = some out1 := h1
  try dsimp only at hT
  refine bB hT ?_
  clear hT
  unfold nK at h1
  refine aP ?_
  refine aZ aG 4 [] [(11, (aK (decide (i4 < (lN l0)))))] ?_
  refine bJ h1 (fun h1 => ?_) (fun h1 => ?_)
  · refine bL ?_
    refine bG [(0, (eL aE l0)), (3, (.msl 1 lo4 0 (List.length bP))), (4, (eI i4))] ?_
    refine cR (fun T H => ∃ bP : List (List aF), ∃ lo6 : Nat, Has T [(0, (eL aE l0)), (3, (.msl 1 lo6 0 (List.length bP))), (4, (eI i4))] ∧ aM ⟨H0, [], []⟩ H [(lo6, 1, List.map (eL aH) bP)] ∧ tR l0 bP i4 = some out1) ?_ ?_
    · clear hO h1
      rintro T H ⟨bP, lo6, hT, hO, h1⟩
      refine bB hT ?_
      clear hT
      unfold tR at h1
      refine aU aG 3 ?_
      refine bF ?_
      exact aJ (aI (⟨rfl, _, (oI h1).symm, _, .eq (by kernel_rfl), hO⟩))
    refine bT 1 ?_
    refine aZ aG 1 [] [(5, (eI (0 : Int)))] ?_
    refine cR (fun T H => ∃ bP : List (List aF), ∃ at5 : Int, ∃ lo7 : Nat, Has T [(0, (eL aE l0)), (3, (.msl 1 lo7 0 (List.length bP))), (4, (eI i4)), (5, (eI at5))] ∧ aM ⟨H0, [], []⟩ H [(lo7, 1, List.map (eL aH) bP)] ∧ tY l0 bP i4 at5 = some out1) ?_ ?_
    · clear hO h1
      rintro T H ⟨bP, at5, lo7, hT, hO, h1⟩
      refine bB hT ?_
      clear hT
      unfold tY at h1
      refine aP ?_
      refine aP ?_
      obtain ⟨c8, h1⟩ := bH h1
      obtain ⟨c9, h1⟩ := bH h1
      obtain ⟨x10, hx11, h1⟩ := aX h1
      refine fQ (fP [46]) aG 16 ?_
      refine wK (K := fun T H => Has (lift T) [(0, (eL aE l0)), (3, (.msl 1 lo7 0 (List.length bP))), (4, (eI i4)), (5, (eI at5)), (48, (aK ((decide (at5 < (lN bP))) && x10)))] ∧ aM ⟨H0, [], []⟩ H [(lo7, 1, List.map (eL aH) bP)]) ?_ ?_
      · refine qG 5 ?_
        refine rA (t := 37) (e := decide (at5 < (lN bP))) (by kernel_rfl) (fun hg12 => ?_) (fun hg12 => ?_)
        · refine cZ 8 [0 ≤ at5 ∧ at5 < (lN bP)] ⟨(c8 hg12), trivial⟩ ?_
          refine zV 0 lo7 1 (0 + Int.toNat at5) (eL aH (gD bP at5)) (eL aH (gD bP at5)) (List.map (eL aH) bP) (by kernel_rfl) (by kernel_rfl) (by kernel_rfl) hO (by kernel_rfl) (cU (c8 hg12)) ?_
          refine cZ 14 [0 ≤ i4 ∧ i4 < (lN l0)] ⟨(c9 hg12), trivial⟩ ?_
          refine zW 30 [(eL aH (gD bP at5)), (eL aH ((gD l0 i4).Row))] (aK x10) (by kernel_rfl) (by kernel_rfl) (AR (gD bP at5) ((gD l0 i4).Row) _ (fW hx11 hg12)) hO ?_
          intro H hO
          refine jO ?_
          exact ⟨⟨[(0, (eL aE l0)), (3, (.msl 1 lo7 0 (List.length bP))), (4, (eI i4)), (5, (eI at5)), (48, (aK x10))], by kernel_rfl, rfl, ⟨aV.refl _, aV.refl _, aV.refl _, aV.refl _, aV.eq (congrArg aK (rZ hg12 rfl).symm), trivial⟩⟩, hO⟩
        refine jO ?_
        exact ⟨⟨[(0, (eL aE l0)), (3, (.msl 1 lo7 0 (List.length bP))), (4, (eI i4)), (5, (eI at5)), (48, (aK false))], by kernel_rfl, rfl, ⟨aV.refl _, aV.refl _, aV.refl _, aV.refl _, aV.eq (congrArg aK (rZ hg12 rfl).symm), trivial⟩⟩, hO⟩
      · rintro T H ⟨hT, hO⟩
        refine cP hT ?_
        clear hT
        refine aJ (aI ?_)
        refine bJ h1 (fun h1 => ?_) (fun h1 => ?_)
        · refine cY 1 ?_
          exact aJ (aT (bO (aI (⟨rfl, _, _, .eq (by kernel_rfl), hO, h1⟩))))
        refine bL ?_
        refine bG [(0, (eL aE l0)), (3, (.msl 1 lo7 0 (List.length bP))), (4, (eI i4)), (5, (eI at5))] ?_
        refine aP ?_
        refine aU aG 6 ?_
        refine nP (xs := []) (k := 1) (by kernel_rfl) (by kernel_rfl) ?_
        obtain ⟨c14, h1⟩ := bH h1
        refine mA 4 [0 ≤ at5 ∧ at5 ≤ (lN bP)] ⟨c14, trivial⟩ ?_
        obtain ⟨c16, h1⟩ := bH h1
        refine OR (e := (eL aH)) (List.take (Int.toNat at5) bP) (fun _ => .bad) 1 24 (.msl 1 lo7 0 (Int.toNat at5)) (fun lo15 => [(lo7, 1, List.map (eL aH) bP), (lo15, 1, List.map (eL aH) (List.take (Int.toNat at5) bP))]) (by kernel_rfl) (by kernel_rfl) hO (UJ hO 0 (by kernel_rfl) (Int.toNat_le.2 (And.right c14))) c16 (fun _ => by kernel_rfl) ?_
        intro lo15 H hO
        refine bF ?_
        refine bV [] [(6, (.msl 1 lo15 0 (List.length (List.take (Int.toNat at5) bP))))] ?_
        refine aP ?_
        refine aU aG 9 ?_
        obtain ⟨c17, h1⟩ := bH h1
        refine mA 6 [0 ≤ i4 ∧ i4 < (lN l0)] ⟨c17, trivial⟩ ?_
        refine nP (xs := [(eL aH ((gD l0 i4).Row))]) (k := 1) (by kernel_rfl) (by kernel_rfl) ?_
        obtain ⟨c19, h1⟩ := bH h1
        refine xL (e := (eL aH)) (List.take (Int.toNat at5) bP) ([(gD l0 i4).Row]) 1 lo15 1 24 (dH [(eL aH ((gD l0 i4).Row))]) (fun lo18 => [(lo7, 1, List.map (eL aH) bP), (lo18, 1, List.map (eL aH) ((List.take (Int.toNat at5) bP) ++ ([(gD l0 i4).Row])))]) (by kernel_rfl) (by kernel_rfl) hO (by kernel_rfl) (by kernel_rfl) c19 (fun _ => by kernel_rfl) ?_
        intro lo18 H hO
        refine bF ?_
        refine bV [6] [(6, (.msl 1 lo18 0 (List.length ((List.take (Int.toNat at5) bP) ++ ([(gD l0 i4).Row])))))] ?_
        refine aU aG 6 ?_
        obtain ⟨c20, h1⟩ := bH h1
        refine mA 4 [0 ≤ at5 ∧ at5 ≤ (lN bP)] ⟨c20, trivial⟩ ?_
        obtain ⟨c22, h1⟩ := bH h1
        refine xL (e := (eL aH)) ((List.take (Int.toNat at5) bP) ++ ([(gD l0 i4).Row])) (List.drop (Int.toNat at5) bP) 1 lo18 1 24 (.msl 1 lo7 (0 + Int.toNat at5) (List.length bP - Int.toNat at5)) (fun lo21 => [(lo7, 1, List.map (eL aH) bP), (lo21, 1, List.map (eL aH) (((List.take (Int.toNat at5) bP) ++ ([(gD l0 i4).Row])) ++ (List.drop (Int.toNat at5) bP)))]) (by kernel_rfl) (by kernel_rfl) hO (by kernel_rfl) (SP hO 0 (by kernel_rfl) rfl (Int.toNat_le.2 (And.right c20))) c22 (fun _ => by kernel_rfl) ?_
        intro lo21 H hO
        refine bF ?_
        replace hO := hO.pick (L' := [(lo21, 1, List.map (eL aH) (((List.take (Int.toNat at5) bP) ++ ([(gD l0 i4).Row])) ++ (List.drop (Int.toNat at5) bP)))]) [1] (by decide) (by kernel_rfl)
        exact aJ (aW (aI (⟨rfl, _, _, .eq (by kernel_rfl), hO, h1⟩)))
    refine bT 2 ?_
    refine cT [(0, (eL aE l0)), (3, (.msl 1 lo4 0 (List.length bP))), (4, (eI i4)), (5, (eI (0 : Int)))] ?_
    refine cH (fun T H => ∃ bP : List (List aF), ∃ at5 : Int, ∃ lo24 : Nat, Has T [(0, (eL aE l0)), (3, (.msl 1 lo24 0 (List.length bP))), (4, (eI i4)), (5, (eI at5))] ∧ aM ⟨H0, [], []⟩ H [(lo24, 1, List.map (eL aH) bP)] ∧ zF l0 bP i4 at5 = some out1) ?_ ⟨bP, (0 : Int), lo4, .eq (by kernel_rfl), hO, h1⟩
    clear hO h1
    rintro T H ⟨bP, at5, lo24, hT, hO, h1⟩
    refine bB hT ?_
    clear hT
    unfold zF at h1
    obtain ⟨rr1, hl1, h1⟩ := aX h1
    refine bZ (by kernel_rfl) (fun (s : List (List aF) × Int) T H => ∃ lo24 : Nat, Has T [(0, (eL aE l0)), (3, (.msl 1 lo24 0 (List.length s.1))), (4, (eI i4)), (5, (eI s.2))] ∧ aM ⟨H0, [], []⟩ H [(lo24, 1, List.map (eL aH) s.1)]) hl1 ⟨lo24, .eq (by kernel_rfl), hO⟩ ?_
    clear hO
    rintro k1 s out2 T H ⟨lo24, hT, hO⟩ h2 ho1
    obtain ⟨bP, at5⟩ := s
    replace h2 : lY l0 i4 bP at5 = some out2 := h2
    try dsimp only at hT
    refine bB hT ?_
    clear hT
    unfold lY at h2
    refine aP ?_
    refine aP ?_
    obtain ⟨c25, h2⟩ := bH h2
    obtain ⟨c26, h2⟩ := bH h2
    obtain ⟨x27, hx28, h2⟩ := aX h2
    refine fQ (fP [27]) aG 17 ?_
    refine wK (K := fun T H => Has (lift T) [(0, (eL aE l0)), (3, (.msl 1 lo24 0 (List.length bP))), (4, (eI i4)), (5, (eI at5)), (30, (aK ((decide (at5 < (lN bP))) && (decide (x27 < (0 : Int))))))] ∧ aM ⟨H0, [], []⟩ H [(lo24, 1, List.map (eL aH) bP)]) ?_ ?_
    · refine qG 5 ?_
      refine rA (t := 18) (e := decide (at5 < (lN bP))) (by kernel_rfl) (fun hg29 => ?_) (fun hg29 => ?_)
      · refine cZ 8 [0 ≤ at5 ∧ at5 < (lN bP)] ⟨(c25 hg29), trivial⟩ ?_
        refine zV 0 lo24 1 (0 + Int.toNat at5) (eL aH (gD bP at5)) (eL aH (gD bP at5)) (List.map (eL aH) bP) (by kernel_rfl) (by kernel_rfl) (by kernel_rfl) hO (by kernel_rfl) (cU (c25 hg29)) ?_
        refine cZ 14 [0 ≤ i4 ∧ i4 < (lN l0)] ⟨(c26 hg29), trivial⟩ ?_
        refine zW 51 [(eL aH (gD bP at5)), (eL aH ((gD l0 i4).Row))] (eI x27) (by kernel_rfl) (by kernel_rfl) (FF (gD bP at5) ((gD l0 i4).Row) _ (fW hx28 hg29)) hO ?_
        intro H hO
        refine jO ?_
        exact ⟨⟨[(0, (eL aE l0)), (3, (.msl 1 lo24 0 (List.length bP))), (4, (eI i4)), (5, (eI at5)), (30, (aK (decide (x27 < (0 : Int)))))], by kernel_rfl, rfl, ⟨aV.refl _, aV.refl _, aV.refl _, aV.refl _, aV.eq (congrArg aK (rZ hg29 rfl).symm), trivial⟩⟩, hO⟩
      refine jO ?_
      exact ⟨⟨[(0, (eL aE l0)), (3, (.msl 1 lo24 0 (List.length bP))), (4, (eI i4)), (5, (eI at5)), (30, (aK false))], by kernel_rfl, rfl, ⟨aV.refl _, aV.refl _, aV.refl _, aV.refl _, aV.eq (congrArg aK (rZ hg29 rfl).symm), trivial⟩⟩, hO⟩
    · rintro T H ⟨hT, hO⟩
      refine cP hT ?_
      clear hT
      refine aJ (aI ?_)
      refine bJ h2 (fun h2 => ?_) (fun h2 => ?_)
      · refine bL ?_
        refine bG [(0, (eL aE l0)), (3, (.msl 1 lo24 0 (List.length bP))), (4, (eI i4)), (5, (eI at5))] ?_
        refine bT 3 ?_
        refine aU aG 3 ?_
        refine bF ?_
        exact aJ (aW (aI (⟨rfl, _, (oI h2).symm, _, .eq (by kernel_rfl), hO⟩)))
      refine cY 2 ?_
      obtain rfl := oI h2
      obtain rfl : _ = rr1 := ho1
      replace h1 : tY l0 bP i4 at5 = some out1 := h1
      exact aJ (aT (aT (bO (aI (⟨rfl, _, _, _, .eq (by kernel_rfl), hO, h1⟩)))))
  refine cY 0 ?_
  obtain rfl := oI h1
  obtain rfl : _ = rr0 := ho0
  replace h0 : zI bP = some r := h0
  exact aJ (aT (aT (bO (aI (⟨rfl, _, _, .eq (by kernel_rfl), hO, h0⟩)))))

theorem CY (l0 : (List aC)) (r1 : (List aF)) (r : (List aB)) (h0 : oZ l0 r1 = some r) : bY Tryz.prog 29 [(eL aE l0), (eL aH r1)] (eL aD r) := by
  intro H0
  refine cG Tryz.func29 ?_
  have hO := aM.start H0
  unfold oZ at h0
  refine aZ aG 1 [] [] ?_
  refine aP ?_
  refine aU aG 2 ?_
  refine nP (xs := []) (k := 2) (by kernel_rfl) (by kernel_rfl) ?_
  refine bF ?_
  refine bV [] [(5, (.sl true 0 (fun _ => .bad)))] ?_
  refine cR (fun T H => ∃ f5 : List aB, ∃ lo1 : Nat, Has T [(5, (.msl 2 lo1 0 (List.length f5)))] ∧ aM ⟨H0, [], []⟩ H [(lo1, 2, List.map aD f5)] ∧ wQ f5 = some r) ?_ ?_
  · clear hO h0
    rintro T H ⟨f5, lo1, hT, hO, h0⟩
    refine bB hT ?_
    clear hT
    unfold wQ at h0
    refine bU aG 2 [(4, (.msl 2 lo1 0 (List.length f5)))] ?_
    refine bK ?_
    refine cX [(4, (.msl 2 lo1 0 (List.length f5)))] ?_
    refine vP (en := aD) f5 0 0 4 2 lo1 (List.length f5) hO (by kernel_rfl) (by kernel_rfl) (by kernel_rfl) (L' := []) (by kernel_rfl) ?_
    intro H2 hO
    obtain rfl := oI h0
    exact aJ (Q_r hO)
  refine aZ aG 1 [] [(6, (eI (0 : Int)))] ?_
  refine bT 0 ?_
  refine cT [(0, (eL aE l0)), (1, (eL aH r1)), (5, (.sl true 0 (fun _ => .bad))), (6, (eI (0 : Int)))] ?_
  refine CO (el := (fun _ => .bad)) 2 5 2 hO (by kernel_rfl) ?_
  intro lo16 H17 hO
  refine cH (fun T H => ∃ f5 : List aB, ∃ i6 : Int, ∃ lo4 : Nat, Has T [(0, (eL aE l0)), (1, (eL aH r1)), (5, (.msl 2 lo4 0 (List.length f5))), (6, (eI i6))] ∧ aM ⟨H0, [], []⟩ H [(lo4, 2, List.map aD f5)] ∧ wO l0 r1 f5 i6 = some r) ?_ ⟨([] : List aB), (0 : Int), lo16, .eq (by kernel_rfl), hO, h0⟩
  clear hO h0
  rintro T H ⟨f5, i6, lo4, hT, hO, h0⟩
  refine bB hT ?_
  clear hT
  unfold wO at h0
  obtain ⟨rr0, hl0, h0⟩ := aX h0
  refine bZ (by kernel_rfl) (fun (s : List aB × Int) T H => ∃ lo4 : Nat, Has T [(0, (eL aE l0)), (1, (eL aH r1)), (5, (.msl 2 lo4 0 (List.length s.1))), (6, (eI s.2))] ∧ aM ⟨H0, [], []⟩ H [(lo4, 2, List.map aD s.1)]) hl0 ⟨lo4, .eq (by kernel_rfl), hO⟩ ?_
  clear hO
  rintro k0 s out1 T H ⟨lo4, hT, hO⟩ h1 ho0
  obtain ⟨f5, i6⟩ := s
  replace h1 : mE l0 r1 f5 i6 = some out1 := h1
  try dsimp only at hT
  refine bB hT ?_
  clear hT
  unfold mE at h1
  refine aP ?_
  refine aZ aG 4 [] [(11, (aK (decide (i6 < (lN l0)))))] ?_
  refine bJ h1 (fun h1 => ?_) (fun h1 => ?_)
  · refine bL ?_
    refine bG [(0, (eL aE l0)), (1, (eL aH r1)), (5, (.msl 2 lo4 0 (List.length f5))), (6, (eI i6))] ?_
    refine cR (fun T H => ∃ f5 : List aB, ∃ lo6 : Nat, Has T [(0, (eL aE l0)), (1, (eL aH r1)), (5, (.msl 2 lo6 0 (List.length f5))), (6, (eI i6))] ∧ aM ⟨H0, [], []⟩ H [(lo6, 2, List.map aD f5)] ∧ sS l0 r1 f5 i6 = some out1) ?_ ?_
    · clear hO h1
      rintro T H ⟨f5, lo6, hT, hO, h1⟩
      refine bB hT ?_
      clear hT
      unfold sS at h1
      refine aU aG 3 ?_
      refine bF ?_
      exact aJ (aI (⟨rfl, _, (oI h1).symm, _, .eq (by kernel_rfl), hO⟩))
    refine bT 1 ?_
    refine aP ?_
    refine aU aG 7 ?_
    obtain ⟨c7, h1⟩ := bH h1
    refine mA 6 [0 ≤ i6 ∧ i6 < (lN l0)] ⟨c7, trivial⟩ ?_
    obtain ⟨x8, hx9, h1⟩ := aX h1
    refine cF (AR ((gD l0 i6).Row) r1 _ hx9) hO ?_
    intro H hO
    refine cQ ?_
    refine bV [] [(20, (aK x8))] ?_
    refine bJ h1 (fun h1 => ?_) (fun h1 => ?_)
    · refine fQ (fP [26, 31, 33]) aG 15 ?_
      obtain ⟨c12, h1⟩ := bH h1
      obtain ⟨c13, h1⟩ := bH h1
      refine cZ 12 [0 ≤ i6 ∧ i6 < (lN l0), 0 ≤ i6 ∧ i6 < (lN l0)] ⟨c12, c13, trivial⟩ ?_
      refine HV (xs := [(aD (aB.mk ((gD l0 i6).At) ((gD l0 i6).Net)))]) (k := 2) (by kernel_rfl) (by kernel_rfl) ?_
      obtain ⟨c15, h1⟩ := bH h1
      refine GD (e := aD) f5 ([aB.mk ((gD l0 i6).At) ((gD l0 i6).Net)]) 0 lo4 2 16 (dH [(aD (aB.mk ((gD l0 i6).At) ((gD l0 i6).Net)))]) (fun lo14 => [(lo14, 2, List.map aD (f5 ++ ([aB.mk ((gD l0 i6).At) ((gD l0 i6).Net)])))]) (by kernel_rfl) (by kernel_rfl) hO (by kernel_rfl) (by kernel_rfl) c15 (fun _ => by kernel_rfl) ?_
      intro lo14 H hO
      refine jO ?_
      exact aJ (aW (aI (⟨rfl, _, _, .eq (by kernel_rfl), hO, h1⟩)))
    refine bL ?_
    exact aJ (aW (aI (⟨rfl, _, _, .eq (by kernel_rfl), hO, h1⟩)))
  refine cY 0 ?_
  obtain rfl := oI h1
  obtain rfl : _ = rr0 := ho0
  replace h0 : wQ f5 = some r := h0
  exact aJ (aT (aT (bO (aI (⟨rfl, _, _, .eq (by kernel_rfl), hO, h0⟩)))))

theorem KT (l0 : (List aC)) (r : Bool) (h0 : uW l0 = some r) : bY Tryz.prog 25 [(eL aE l0)] (aK r) := by
  intro H0
  refine cG Tryz.func25 ?_
  have hO := aM.start H0
  unfold uW at h0
  refine aZ aG 1 [] [] ?_
  refine aP ?_
  refine aZ aG 3 [] [(9, (aK (decide ((4096 : Int) < (lN l0)))))] ?_
  refine bJ h0 (fun h0 => ?_) (fun h0 => ?_)
  · refine bU aG 1 [(2, (aK false))] ?_
    refine bK ?_
    obtain rfl := oI h0
    exact aJ (aS (Q_r hO))
  refine bL ?_
  refine bG [(0, (eL aE l0))] ?_
  refine cR (fun T H => Has T [(0, (eL aE l0))] ∧ aM ⟨H0, [], []⟩ H [] ∧ vM l0 = some r) ?_ ?_
  · clear hO h0
    rintro T H ⟨hT, hO, h0⟩
    refine bB hT ?_
    clear hT
    unfold vM at h0
    refine aP ?_
    refine aU aG 3 ?_
    refine bS 1 ?_
    obtain ⟨x2, hx3, h0⟩ := aX h0
    refine cF (EJ l0 _ hx3) hO ?_
    intro H hO
    refine bF ?_
    refine bV [] [(5, (eL (eL aH) x2))] ?_
    refine cR (fun T H => Has T [] ∧ aM ⟨H0, [], []⟩ H [] ∧ AU  = some r) ?_ ?_
    · clear hO h0
      rintro T H ⟨hT, hO, h0⟩
      refine bB hT ?_
      clear hT
      unfold AU at h0
      refine bU aG 1 [(2, (aK true))] ?_
      refine bK ?_
      obtain rfl := oI h0
      exact aJ (Q_r hO)
    refine aZ aG 1 [] [(6, (eI (0 : Int)))] ?_
    refine bT 2 ?_
    refine cT [(0, (eL aE l0)), (5, (eL (eL aH) x2)), (6, (eI (0 : Int)))] ?_
    refine cH (fun T H => ∃ cN : (List (List aF)), ∃ i6 : Int, Has T [(0, (eL aE l0)), (5, (eL (eL aH) cN)), (6, (eI i6))] ∧ aM ⟨H0, [], []⟩ H [] ∧ AS l0 cN i6 = some r) ?_ ⟨x2, (0 : Int), .eq (by kernel_rfl), hO, h0⟩
    clear hO h0
    rintro T H ⟨cN, i6, hT, hO, h0⟩
    refine bB hT ?_
    clear hT
    unfold AS at h0
    obtain ⟨rr0, hl0, h0⟩ := aX h0
    refine bZ (by kernel_rfl) (fun (s : Int) T H => Has T [(0, (eL aE l0)), (5, (eL (eL aH) cN)), (6, (eI s))] ∧ aM ⟨H0, [], []⟩ H []) hl0 ⟨.eq (by kernel_rfl), hO⟩ ?_
    clear hO
    rintro k0 s out1 T H ⟨hT, hO⟩ h1 ho0
    obtain ⟨i6, rfl⟩ : ∃ x, x = s := ⟨_, rfl⟩
    replace h1 : qE l0 cN i6 = some out1 := h1
    refine bB hT ?_
    clear hT
    unfold qE at h1
    refine aP ?_
    refine aZ aG 4 [] [(78, (aK (decide (i6 < (lN cN)))))] ?_
    refine bJ h1 (fun h1 => ?_) (fun h1 => ?_)
    · refine bL ?_
      refine bG [(0, (eL aE l0)), (5, (eL (eL aH) cN)), (6, (eI i6))] ?_
      refine aP ?_
      refine bT 3 ?_
      refine aP ?_
      refine aU aG 8 ?_
      obtain ⟨c6, h1⟩ := bH h1
      refine mA 5 [0 ≤ i6 ∧ i6 < (lN cN)] ⟨c6, trivial⟩ ?_
      obtain ⟨x7, hx8, h1⟩ := aX h1
      refine cF (CY l0 (gD cN i6) _ hx8) hO ?_
      intro H hO
      refine bF ?_
      refine bV [] [(88, (aK (decide ((1024 : Int) < (lN x7)))))] ?_
      refine bJ h1 (fun h1 => ?_) (fun h1 => ?_)
      · refine bU aG 1 [(2, (aK false))] ?_
        refine bK ?_
        obtain rfl := oI h1
        obtain rfl : _ = rr0 := ho0
        replace h0 : some false = some r := h0
        obtain rfl := oI h0
        exact aJ (bR (aS (aS (bR (aS (Q_r hO))))))
      refine bL ?_
      refine cX [(0, (eL aE l0)), (5, (eL (eL aH) cN)), (6, (eI i6))] ?_
      refine aJ (aW (aI (?_)))
      refine aU aG 3 ?_
      refine bF ?_
      exact aJ (aI (⟨rfl, _, (oI h1).symm, .eq (by kernel_rfl), hO⟩))
    refine cY 2 ?_
    obtain rfl := oI h1
    obtain rfl : _ = rr0 := ho0
    replace h0 : AU  = some r := h0
    exact aJ (aT (aT (bO (aI (⟨rfl, .eq (by kernel_rfl), hO, h0⟩)))))
  refine aZ aG 1 [] [(3, (eI (0 : Int)))] ?_
  refine bT 0 ?_
  refine cT [(0, (eL aE l0)), (3, (eI (0 : Int)))] ?_
  refine cH (fun T H => ∃ i3 : Int, Has T [(0, (eL aE l0)), (3, (eI i3))] ∧ aM ⟨H0, [], []⟩ H [] ∧ AV l0 i3 = some r) ?_ ⟨(0 : Int), .eq (by kernel_rfl), hO, h0⟩
  clear hO h0
  rintro T H ⟨i3, hT, hO, h0⟩
  refine bB hT ?_
  clear hT
  unfold AV at h0
  obtain ⟨rr0, hl0, h0⟩ := aX h0
  refine bZ (by kernel_rfl) (fun (s : Int) T H => Has T [(0, (eL aE l0)), (3, (eI s))] ∧ aM ⟨H0, [], []⟩ H []) hl0 ⟨.eq (by kernel_rfl), hO⟩ ?_
  clear hO
  rintro k0 s out1 T H ⟨hT, hO⟩ h1 ho0
  obtain ⟨i3, rfl⟩ : ∃ x, x = s := ⟨_, rfl⟩
  replace h1 : oK l0 i3 = some out1 := h1
  refine bB hT ?_
  clear hT
  unfold oK at h1
  refine aP ?_
  refine aZ aG 4 [] [(13, (aK (decide (i3 < (lN l0)))))] ?_
  refine bJ h1 (fun h1 => ?_) (fun h1 => ?_)
  · refine bL ?_
    refine bG [(0, (eL aE l0)), (3, (eI i3))] ?_
    refine cR (fun T H => Has T [(0, (eL aE l0)), (3, (eI i3))] ∧ aM ⟨H0, [], []⟩ H [] ∧ sM l0 i3 = some out1) ?_ ?_
    · clear hO h1
      rintro T H ⟨hT, hO, h1⟩
      refine bB hT ?_
      clear hT
      unfold sM at h1
      refine aU aG 3 ?_
      refine bF ?_
      exact aJ (aI (⟨rfl, _, (oI h1).symm, .eq (by kernel_rfl), hO⟩))
    refine bT 1 ?_
    refine aP ?_
    refine aP ?_
    obtain ⟨c12, h1⟩ := bH h1
    obtain ⟨x13, hx14, h1⟩ := aX h1
    obtain ⟨c15, h1⟩ := bH h1
    obtain ⟨c16, h1⟩ := bH h1
    obtain ⟨x17, hx18, h1⟩ := aX h1
    refine fQ (fP [20, 28, 33]) aG 23 ?_
    refine wK (K := fun T H => Has (lift T) [(0, (eL aE l0)), (3, (eI i3)), (38, (aK ((!x13) || (!x17))))] ∧ aM ⟨H0, [], []⟩ H []) ?_ ?_
    · refine cZ 5 [0 ≤ i3 ∧ i3 < (lN l0)] ⟨c12, trivial⟩ ?_
      refine zW 37 [(eL aH ((gD l0 i3).Row))] (aK x13) (by kernel_rfl) (by kernel_rfl) (FX ((gD l0 i3).Row) _ hx14) hO ?_
      intro H hO
      refine qG 8 ?_
      refine rA (t := 23) (e := !x13) (by kernel_rfl) (fun hg19 => ?_) (fun hg19 => ?_)
      · refine jO ?_
        exact ⟨⟨[(0, (eL aE l0)), (3, (eI i3)), (38, (aK true))], by kernel_rfl, rfl, ⟨aV.refl _, aV.refl _, aV.eq (congrArg aK (xR hg19 rfl).symm), trivial⟩⟩, hO⟩
      refine cZ 19 [0 ≤ i3 ∧ i3 < (lN l0), 0 ≤ i3 ∧ i3 < (lN l0)] ⟨(c15 (wV hg19)), (c16 (wV hg19)), trivial⟩ ?_
      refine aCX (xs := [(aD (aB.mk ((gD l0 i3).At) ((gD l0 i3).Net)))]) (by kernel_rfl) (by kernel_rfl) ?_
      refine zW 50 [(dH [(aD (aB.mk ((gD l0 i3).At) ((gD l0 i3).Net)))])] (aK x17) (by kernel_rfl) (by kernel_rfl) (bY.sub (FW ([aB.mk ((gD l0 i3).At) ((gD l0 i3).Net)]) _ (fW hx18 (wV hg19))) ⟨DV (l := [aB.mk ((gD l0 i3).At) ((gD l0 i3).Net)]), trivial⟩) hO ?_
      intro H hO
      refine jO ?_
      exact ⟨⟨[(0, (eL aE l0)), (3, (eI i3)), (38, (aK (!x17)))], by kernel_rfl, rfl, ⟨aV.refl _, aV.refl _, aV.eq (congrArg aK (xR hg19 rfl).symm), trivial⟩⟩, hO⟩
    · rintro T H ⟨hT, hO⟩
      refine cP hT ?_
      clear hT
      refine aJ (aI ?_)
      refine bJ h1 (fun h1 => ?_) (fun h1 => ?_)
      · refine bU aG 1 [(2, (aK false))] ?_
        refine bK ?_
        obtain rfl := oI h1
        obtain rfl : _ = rr0 := ho0
        replace h0 : some false = some r := h0
        obtain rfl := oI h0
        exact aJ (aS (bR (aS (aS (bR (aS (Q_r hO)))))))
      refine bL ?_
      refine bG [(0, (eL aE l0)), (3, (eI i3))] ?_
      refine aP ?_
      refine aZ aG 2 [] [(40, (aK (decide (i3 = (0 : Int)))))] ?_
      refine bJ h1 (fun h1 => ?_) (fun h1 => ?_)
      · refine cY 1 ?_
        exact aJ (aT (bO (aI (⟨rfl, .eq (by kernel_rfl), hO, h1⟩))))
      refine bL ?_
      refine bG [(0, (eL aE l0)), (3, (eI i3))] ?_
      refine aP ?_
      refine fQ (fP [46, 51, 52]) aG 13 ?_
      obtain ⟨c22, h1⟩ := bH h1
      obtain ⟨c23, h1⟩ := bH h1
      refine cZ 11 [0 ≤ (wR (i3 - (1 : Int))) ∧ (wR (i3 - (1 : Int))) < (lN l0), 0 ≤ i3 ∧ i3 < (lN l0)] ⟨c22, c23, trivial⟩ ?_
      obtain ⟨x24, hx25, h1⟩ := aX h1
      refine zK (FF ((gD l0 (wR (i3 - (1 : Int)))).Row) ((gD l0 i3).Row) _ hx25) hO ?_
      intro H hO
      refine jO ?_
      refine bV [] [(4, (eI x24))] ?_
      refine aP ?_
      obtain ⟨c27, h1⟩ := bH h1
      obtain ⟨c28, h1⟩ := bH h1
      refine fQ (fP [64, 69]) aG 20 ?_
      refine wK (K := fun T H => Has (lift T) [(0, (eL aE l0)), (3, (eI i3)), (72, (aK ((decide ((0 : Int) < x24)) || ((decide (x24 = (0 : Int))) && (decide (((gD l0 i3).At) ≤ ((gD l0 (wR (i3 - (1 : Int)))).At)))))))] ∧ aM ⟨H0, [], []⟩ H []) ?_ ?_
      · refine qG 3 ?_
        refine rA (t := 55) (e := decide ((0 : Int) < x24)) (by kernel_rfl) (fun hg29 => ?_) (fun hg29 => ?_)
        · refine jO ?_
          exact ⟨⟨[(0, (eL aE l0)), (3, (eI i3)), (72, (aK true))], by kernel_rfl, rfl, ⟨aV.refl _, aV.refl _, aV.eq (congrArg aK (xR hg29 rfl).symm), trivial⟩⟩, hO⟩
        refine qG 6 ?_
        refine rA (t := 58) (e := decide (x24 = (0 : Int))) (by kernel_rfl) (fun hg30 => ?_) (fun hg30 => ?_)
        · refine EW (Ds := [0 ≤ (wR (i3 - (1 : Int))) ∧ (wR (i3 - (1 : Int))) < (lN l0), 0 ≤ i3 ∧ i3 < (lN l0)]) (by kernel_rfl) ⟨(c27 (rZ hg30 (wV hg29))), (c28 (rZ hg30 (wV hg29))), trivial⟩ ?_
          exact ⟨⟨[(0, (eL aE l0)), (3, (eI i3)), (72, (aK (decide (((gD l0 i3).At) ≤ ((gD l0 (wR (i3 - (1 : Int)))).At)))))], by kernel_rfl, rfl, ⟨aV.refl _, aV.refl _, aV.eq (congrArg aK (xR hg29 (rZ hg30 rfl)).symm), trivial⟩⟩, hO⟩
        refine jO ?_
        exact ⟨⟨[(0, (eL aE l0)), (3, (eI i3)), (72, (aK false))], by kernel_rfl, rfl, ⟨aV.refl _, aV.refl _, aV.eq (congrArg aK (xR hg29 (rZ hg30 rfl)).symm), trivial⟩⟩, hO⟩
      · rintro T H ⟨hT, hO⟩
        refine cP hT ?_
        clear hT
        refine aJ (aI ?_)
        refine bJ h1 (fun h1 => ?_) (fun h1 => ?_)
        · refine bU aG 1 [(2, (aK false))] ?_
          refine bK ?_
          obtain rfl := oI h1
          obtain rfl : _ = rr0 := ho0
          replace h0 : some false = some r := h0
          obtain rfl := oI h0
          exact aJ (bR (aS (aS (bR (aS (Q_r hO))))))
        refine bL ?_
        exact aJ (aW (aI (⟨rfl, .eq (by kernel_rfl), hO, h1⟩)))
  refine cY 0 ?_
  obtain rfl := oI h1
  obtain rfl : _ = rr0 := ho0
  replace h0 : vM l0 = some r := h0
  exact aJ (aT (aT (bO (aI (⟨rfl, .eq (by kernel_rfl), hO, h0⟩)))))

theorem CQ (f0 : (List aB)) (t1 : Int) (r : Int) (h0 : nF f0 t1 = some r) : bY Tryz.prog 77 [(eL aD f0), (eI t1)] (eI r) := by
  intro H0
  refine cG Tryz.func77 ?_
  have hO := aM.start H0
  unfold nF at h0
  refine aZ aG 1 [] [] ?_
  refine aZ aG 1 [] [(5, (eI (0 : Int)))] ?_
  refine cR (fun T H => ∃ v5 : Int, Has T [(5, (eI v5))] ∧ aM ⟨H0, [], []⟩ H [] ∧ sI v5 = some r) ?_ ?_
  · clear hO h0
    rintro T H ⟨v5, hT, hO, h0⟩
    refine bB hT ?_
    clear hT
    unfold sI at h0
    refine bU aG 2 [(4, (eI v5))] ?_
    refine bK ?_
    obtain rfl := oI h0
    exact aJ (Q_r hO)
  refine aZ aG 1 [] [(6, (eI (0 : Int)))] ?_
  refine bT 0 ?_
  refine cT [(0, (eL aD f0)), (1, (eI t1)), (5, (eI (0 : Int))), (6, (eI (0 : Int)))] ?_
  refine cH (fun T H => ∃ v5 : Int, ∃ i6 : Int, Has T [(0, (eL aD f0)), (1, (eI t1)), (5, (eI v5)), (6, (eI i6))] ∧ aM ⟨H0, [], []⟩ H [] ∧ wP f0 t1 v5 i6 = some r) ?_ ⟨(0 : Int), (0 : Int), .eq (by kernel_rfl), hO, h0⟩
  clear hO h0
  rintro T H ⟨v5, i6, hT, hO, h0⟩
  refine bB hT ?_
  clear hT
  unfold wP at h0
  obtain ⟨rr0, hl0, h0⟩ := aX h0
  refine bZ (by kernel_rfl) (fun (s : Int × Int) T H => Has T [(0, (eL aD f0)), (1, (eI t1)), (5, (eI s.1)), (6, (eI s.2))] ∧ aM ⟨H0, [], []⟩ H []) hl0 ⟨.eq (by kernel_rfl), hO⟩ ?_
  clear hO
  rintro k0 s out1 T H ⟨hT, hO⟩ h1 ho0
  obtain ⟨v5, i6⟩ := s
  replace h1 : jI f0 t1 v5 i6 = some out1 := h1
  try dsimp only at hT
  refine bB hT ?_
  clear hT
  unfold jI at h1
  refine aP ?_
  refine aZ aG 4 [] [(10, (aK (decide (i6 < (lN f0)))))] ?_
  refine bJ h1 (fun h1 => ?_) (fun h1 => ?_)
  · refine bL ?_
    refine bG [(0, (eL aD f0)), (1, (eI t1)), (5, (eI v5)), (6, (eI i6))] ?_
    refine cR (fun T H => ∃ v5 : Int, Has T [(0, (eL aD f0)), (1, (eI t1)), (5, (eI v5)), (6, (eI i6))] ∧ aM ⟨H0, [], []⟩ H [] ∧ pT f0 t1 v5 i6 = some out1) ?_ ?_
    · clear hO h1
      rintro T H ⟨v5, hT, hO, h1⟩
      refine bB hT ?_
      clear hT
      unfold pT at h1
      refine aU aG 3 ?_
      refine bF ?_
      exact aJ (aI (⟨rfl, _, (oI h1).symm, .eq (by kernel_rfl), hO⟩))
    refine bT 1 ?_
    refine aP ?_
    refine aU aG 7 ?_
    obtain ⟨c2, h1⟩ := bH h1
    refine tJ [0 ≤ i6 ∧ i6 < (lN f0)] ⟨c2, trivial⟩ ?_
    refine bV [] [(19, (aK (decide (((gD f0 i6).At) ≤ t1))))] ?_
    refine bJ h1 (fun h1 => ?_) (fun h1 => ?_)
    · refine aU aG 8 ?_
      obtain ⟨c4, h1⟩ := bH h1
      refine tJ [0 ≤ i6 ∧ i6 < (lN f0)] ⟨c4, trivial⟩ ?_
      exact aJ (aW (aI (⟨rfl, _, .eq (by kernel_rfl), hO, h1⟩)))
    refine bL ?_
    exact aJ (aW (aI (⟨rfl, _, .eq (by kernel_rfl), hO, h1⟩)))
  refine cY 0 ?_
  obtain rfl := oI h1
  obtain rfl : _ = rr0 := ho0
  replace h0 : sI v5 = some r := h0
  exact aJ (aT (aT (bO (aI (⟨rfl, _, .eq (by kernel_rfl), hO, h0⟩)))))

theorem IC (f0 : (List aB)) (r : Int) (h0 : qS f0 = some r) : bY Tryz.prog 52 [(eL aD f0)] (eI r) := by
  intro H0
  refine cG Tryz.func52 ?_
  have hO := aM.start H0
  unfold qS at h0
  refine aZ aG 1 [] [] ?_
  refine aP ?_
  refine aP ?_
  refine aU aG 3 ?_
  refine bS 1 ?_
  obtain ⟨x1, hx2, h0⟩ := aX h0
  refine cF (FW f0 _ hx2) hO ?_
  intro H hO
  refine bF ?_
  refine bV [] [(7, (aK (!x1)))] ?_
  refine bJ h0 (fun h0 => ?_) (fun h0 => ?_)
  · refine bU aG 1 [(2, (eI (0 : Int)))] ?_
    refine bK ?_
    obtain rfl := oI h0
    exact aJ (aS (Q_r hO))
  refine bL ?_
  refine bG [(0, (eL aD f0))] ?_
  refine aP ?_
  refine aU aG 3 ?_
  refine bS 1 ?_
  obtain ⟨x5, hx6, h0⟩ := aX h0
  refine cF (CQ f0 (-1 : Int) _ hx6) hO ?_
  intro H hO
  refine bF ?_
  refine bV [] [(3, (eI x5))] ?_
  refine cR (fun T H => ∃ m3 : Int, Has T [(3, (eI m3))] ∧ aM ⟨H0, [], []⟩ H [] ∧ sU m3 = some r) ?_ ?_
  · clear hO h0
    rintro T H ⟨m3, hT, hO, h0⟩
    refine bB hT ?_
    clear hT
    unfold sU at h0
    refine bU aG 2 [(2, (eI m3))] ?_
    refine bK ?_
    obtain rfl := oI h0
    exact aJ (Q_r hO)
  refine aZ aG 1 [] [(4, (eI (0 : Int)))] ?_
  refine bT 0 ?_
  refine cT [(0, (eL aD f0)), (3, (eI x5)), (4, (eI (0 : Int)))] ?_
  refine cH (fun T H => ∃ m3 : Int, ∃ i4 : Int, Has T [(0, (eL aD f0)), (3, (eI m3)), (4, (eI i4))] ∧ aM ⟨H0, [], []⟩ H [] ∧ wW f0 m3 i4 = some r) ?_ ⟨x5, (0 : Int), .eq (by kernel_rfl), hO, h0⟩
  clear hO h0
  rintro T H ⟨m3, i4, hT, hO, h0⟩
  refine bB hT ?_
  clear hT
  unfold wW at h0
  obtain ⟨rr0, hl0, h0⟩ := aX h0
  refine bZ (by kernel_rfl) (fun (s : Int × Int) T H => Has T [(0, (eL aD f0)), (3, (eI s.1)), (4, (eI s.2))] ∧ aM ⟨H0, [], []⟩ H []) hl0 ⟨.eq (by kernel_rfl), hO⟩ ?_
  clear hO
  rintro k0 s out1 T H ⟨hT, hO⟩ h1 ho0
  obtain ⟨m3, i4⟩ := s
  replace h1 : mL f0 m3 i4 = some out1 := h1
  try dsimp only at hT
  refine bB hT ?_
  clear hT
  unfold mL at h1
  refine aP ?_
  refine aZ aG 4 [] [(13, (aK (decide (i4 < (lN f0)))))] ?_
  refine bJ h1 (fun h1 => ?_) (fun h1 => ?_)
  · refine bL ?_
    refine bG [(0, (eL aD f0)), (3, (eI m3)), (4, (eI i4))] ?_
    refine cR (fun T H => ∃ m3 : Int, Has T [(0, (eL aD f0)), (3, (eI m3)), (4, (eI i4))] ∧ aM ⟨H0, [], []⟩ H [] ∧ sD f0 m3 i4 = some out1) ?_ ?_
    · clear hO h1
      rintro T H ⟨m3, hT, hO, h1⟩
      refine bB hT ?_
      clear hT
      unfold sD at h1
      refine aU aG 3 ?_
      refine bF ?_
      exact aJ (aI (⟨rfl, _, (oI h1).symm, .eq (by kernel_rfl), hO⟩))
    refine bT 1 ?_
    refine aP ?_
    refine aU aG 9 ?_
    obtain ⟨c9, h1⟩ := bH h1
    refine mA 6 [0 ≤ i4 ∧ i4 < (lN f0)] ⟨c9, trivial⟩ ?_
    obtain ⟨x10, hx11, h1⟩ := aX h1
    refine cF (CQ f0 ((gD f0 i4).At) _ hx11) hO ?_
    intro H hO
    refine bF ?_
    refine bV [] [(24, (aK (decide (x10 < m3))))] ?_
    refine bJ h1 (fun h1 => ?_) (fun h1 => ?_)
    · refine aU aG 8 ?_
      obtain ⟨c14, h1⟩ := bH h1
      refine mA 6 [0 ≤ i4 ∧ i4 < (lN f0)] ⟨c14, trivial⟩ ?_
      obtain ⟨x15, hx16, h1⟩ := aX h1
      refine cF (CQ f0 ((gD f0 i4).At) _ hx16) hO ?_
      intro H hO
      refine bF ?_
      exact aJ (aW (aI (⟨rfl, _, .eq (by kernel_rfl), hO, h1⟩)))
    refine bL ?_
    exact aJ (aW (aI (⟨rfl, _, .eq (by kernel_rfl), hO, h1⟩)))
  refine cY 0 ?_
  obtain rfl := oI h1
  obtain rfl : _ = rr0 := ho0
  replace h0 : sU m3 = some r := h0
  exact aJ (aT (aT (bO (aI (⟨rfl, _, .eq (by kernel_rfl), hO, h0⟩)))))

end Go.Abs
namespace Go.Abs
open Go Go.RowKit Go.Proofs
theorem RO (l0 : (List aC)) (r : Bool) (h0 : tU l0 = some r) : bY Tryz.prog 26 [(eL aE l0)] (aK r) := by
  intro H0
  refine cG Tryz.func26 ?_
  have hO := aM.start H0
  unfold tU at h0
  refine aZ aG 1 [] [] ?_
  refine aP ?_
  refine aP ?_
  refine aU aG 3 ?_
  refine bS 1 ?_
  obtain ⟨x1, hx2, h0⟩ := aX h0
  refine cF (KT l0 _ hx2) hO ?_
  intro H hO
  refine bF ?_
  refine bV [] [(7, (aK (!x1)))] ?_
  refine bJ h0 (fun h0 => ?_) (fun h0 => ?_)
  · refine bU aG 1 [(2, (aK false))] ?_
    refine bK ?_
    obtain rfl := oI h0
    exact aJ (aS (Q_r hO))
  refine bL ?_
  refine bG [(0, (eL aE l0))] ?_
  refine aP ?_
  refine aU aG 3 ?_
  refine bS 1 ?_
  obtain ⟨x5, hx6, h0⟩ := aX h0
  refine cF (EJ l0 _ hx6) hO ?_
  intro H hO
  refine bF ?_
  refine bV [] [(3, (eL (eL aH) x5))] ?_
  refine cR (fun T H => Has T [] ∧ aM ⟨H0, [], []⟩ H [] ∧ xA  = some r) ?_ ?_
  · clear hO h0
    rintro T H ⟨hT, hO, h0⟩
    refine bB hT ?_
    clear hT
    unfold xA at h0
    refine bU aG 1 [(2, (aK true))] ?_
    refine bK ?_
    obtain rfl := oI h0
    exact aJ (Q_r hO)
  refine aZ aG 1 [] [(4, (eI (0 : Int)))] ?_
  refine bT 0 ?_
  refine cT [(0, (eL aE l0)), (3, (eL (eL aH) x5)), (4, (eI (0 : Int)))] ?_
  refine cH (fun T H => ∃ bP : (List (List aF)), ∃ i4 : Int, Has T [(0, (eL aE l0)), (3, (eL (eL aH) bP)), (4, (eI i4))] ∧ aM ⟨H0, [], []⟩ H [] ∧ wM l0 bP i4 = some r) ?_ ⟨x5, (0 : Int), .eq (by kernel_rfl), hO, h0⟩
  clear hO h0
  rintro T H ⟨bP, i4, hT, hO, h0⟩
  refine bB hT ?_
  clear hT
  unfold wM at h0
  obtain ⟨rr0, hl0, h0⟩ := aX h0
  refine bZ (by kernel_rfl) (fun (s : Int) T H => Has T [(0, (eL aE l0)), (3, (eL (eL aH) bP)), (4, (eI s))] ∧ aM ⟨H0, [], []⟩ H []) hl0 ⟨.eq (by kernel_rfl), hO⟩ ?_
  clear hO
  rintro k0 s out1 T H ⟨hT, hO⟩ h1 ho0
  obtain ⟨i4, rfl⟩ : ∃ x, x = s := ⟨_, rfl⟩
  replace h1 : nS l0 bP i4 = some out1 := h1
  refine bB hT ?_
  clear hT
  unfold nS at h1
  refine aP ?_
  refine aZ aG 4 [] [(13, (aK (decide (i4 < (lN bP)))))] ?_
  refine bJ h1 (fun h1 => ?_) (fun h1 => ?_)
  · refine bL ?_
    refine bG [(0, (eL aE l0)), (3, (eL (eL aH) bP)), (4, (eI i4))] ?_
    refine aP ?_
    refine bT 1 ?_
    refine aP ?_
    refine aU aG 8 ?_
    obtain ⟨c9, h1⟩ := bH h1
    refine mA 5 [0 ≤ i4 ∧ i4 < (lN bP)] ⟨c9, trivial⟩ ?_
    obtain ⟨x10, hx11, h1⟩ := aX h1
    refine cF (CY l0 (gD bP i4) _ hx11) hO ?_
    intro H hO
    obtain ⟨x13, hx14, h1⟩ := aX h1
    refine cF (IC x10 _ hx14) hO ?_
    intro H hO
    refine bF ?_
    refine bV [] [(23, (aK (decide (x13 < (0 : Int)))))] ?_
    refine bJ h1 (fun h1 => ?_) (fun h1 => ?_)
    · refine bU aG 1 [(2, (aK false))] ?_
      refine bK ?_
      obtain rfl := oI h1
      obtain rfl : _ = rr0 := ho0
      replace h0 : some false = some r := h0
      obtain rfl := oI h0
      exact aJ (bR (aS (aS (bR (aS (Q_r hO))))))
    refine bL ?_
    refine cX [(0, (eL aE l0)), (3, (eL (eL aH) bP)), (4, (eI i4))] ?_
    refine aJ (aW (aI (?_)))
    refine aU aG 3 ?_
    refine bF ?_
    exact aJ (aI (⟨rfl, _, (oI h1).symm, .eq (by kernel_rfl), hO⟩))
  refine cY 0 ?_
  obtain rfl := oI h1
  obtain rfl : _ = rr0 := ho0
  replace h0 : xA  = some r := h0
  exact aJ (aT (aT (bO (aI (⟨rfl, .eq (by kernel_rfl), hO, h0⟩)))))

theorem RR (f0 : (List aB)) (r : ((List aR) × Int)) (h0 : uK f0 = some r) : bY Tryz.prog 28 [(eL aD f0)] (.tup [(eL bE r.1), (eI r.2)]) := by
  intro H0
  refine cG Tryz.func28 ?_
  have hO := aM.start H0
  unfold uK at h0
  refine aZ aG 2 [] [] ?_
  refine aP ?_
  refine aP ?_
  refine aU aG 3 ?_
  refine bS 1 ?_
  obtain ⟨x1, hx2, h0⟩ := aX h0
  refine cF (FW f0 _ hx2) hO ?_
  intro H hO
  refine bF ?_
  refine bV [] [(16, (aK (!x1)))] ?_
  refine bJ h0 (fun h0 => ?_) (fun h0 => ?_)
  · refine bU aG 2 [(2, (.sl true 0 (fun _ => .bad))), (3, (eI (2 : Int)))] ?_
    refine bK ?_
    refine cP (l := [(2, (eL bE ([]))), (3, (eI (2 : Int)))]) ⟨[(2, (.sl true 0 (fun _ => .bad))), (3, (eI (2 : Int)))], by kernel_rfl, rfl, ⟨eD, aV.refl _, trivial⟩⟩ ?_
    obtain rfl := oI h0
    exact aJ (aS (Q_r hO))
  refine bL ?_
  refine bG [(0, (eL aD f0))] ?_
  refine aP ?_
  refine aP ?_
  refine aU aG 3 ?_
  refine bS 1 ?_
  obtain ⟨x5, hx6, h0⟩ := aX h0
  refine cF (IC f0 _ hx6) hO ?_
  intro H hO
  refine bF ?_
  refine bV [] [(19, (aK (decide (x5 < (0 : Int)))))] ?_
  refine bJ h0 (fun h0 => ?_) (fun h0 => ?_)
  · refine bU aG 2 [(2, (.sl true 0 (fun _ => .bad))), (3, (eI (20 : Int)))] ?_
    refine bK ?_
    refine cP (l := [(2, (eL bE ([]))), (3, (eI (20 : Int)))]) ⟨[(2, (.sl true 0 (fun _ => .bad))), (3, (eI (20 : Int)))], by kernel_rfl, rfl, ⟨eD, aV.refl _, trivial⟩⟩ ?_
    obtain rfl := oI h0
    exact aJ (aS (Q_r hO))
  refine bL ?_
  refine bG [(0, (eL aD f0))] ?_
  refine aP ?_
  refine aU aG 2 ?_
  refine nP (xs := []) (k := 1) (by kernel_rfl) (by kernel_rfl) ?_
  refine bF ?_
  refine bV [] [(4, (.sl true 0 (fun _ => .bad)))] ?_
  refine aP ?_
  refine aU aG 2 ?_
  refine nP (xs := []) (k := 1) (by kernel_rfl) (by kernel_rfl) ?_
  refine bF ?_
  refine bV [] [(5, (.sl true 0 (fun _ => .bad)))] ?_
  refine aZ aG 1 [] [(6, (eI (0 : Int)))] ?_
  refine cR (fun T H => ∃ bD : List Int, ∃ bN : List Int, ∃ n6 : Int, ∃ lo9 : Nat, ∃ lo10 : Nat, Has T [(0, (eL aD f0)), (4, (.msl 1 lo9 0 (List.length bD))), (5, (.msl 1 lo10 0 (List.length bN))), (6, (eI n6))] ∧ aM ⟨H0, [], []⟩ H [(lo9, 1, List.map (eI) bD), (lo10, 1, List.map (eI) bN)] ∧ pV f0 bD bN n6 = some r) ?_ ?_
  · clear hO h0
    rintro T H ⟨bD, bN, n6, lo9, lo10, hT, hO, h0⟩
    refine bB hT ?_
    clear hT
    unfold pV at h0
    refine aP ?_
    refine aZ aG 2 [6] [(42, (aK (decide ((4096 : Int) < n6))))] ?_
    refine bJ h0 (fun h0 => ?_) (fun h0 => ?_)
    · refine aP ?_
      refine aU aG 2 ?_
      refine bF ?_
      refine cX [(2, (.sl true 0 (fun _ => .bad))), (3, (eI (7 : Int)))] ?_
      replace hO := hO.pick (L' := []) [] (by decide) (by kernel_rfl)
      refine aJ (aI (?_))
      refine bK ?_
      refine cP (l := [(2, (eL bE ([]))), (3, (eI (7 : Int)))]) ⟨[(2, (.sl true 0 (fun _ => .bad))), (3, (eI (7 : Int)))], by kernel_rfl, rfl, ⟨eD, aV.refl _, trivial⟩⟩ ?_
      obtain rfl := oI h0
      exact aJ (aS (Q_r hO))
    refine bL ?_
    refine bG [(0, (eL aD f0)), (4, (.msl 1 lo9 0 (List.length bD))), (5, (.msl 1 lo10 0 (List.length bN)))] ?_
    refine cR (fun T H => ∃ bD : List Int, ∃ bN : List Int, ∃ lo12 : Nat, ∃ lo13 : Nat, Has T [(4, (.msl 1 lo12 0 (List.length bD))), (5, (.msl 1 lo13 0 (List.length bN)))] ∧ aM ⟨H0, [], []⟩ H [(lo12, 1, List.map (eI) bD), (lo13, 1, List.map (eI) bN)] ∧ sY bD bN = some r) ?_ ?_
    · clear hO h0
      rintro T H ⟨bD, bN, lo12, lo13, hT, hO, h0⟩
      refine bB hT ?_
      clear hT
      unfold sY at h0
      refine aP ?_
      refine aU aG 2 ?_
      refine nP (xs := []) (k := 2) (by kernel_rfl) (by kernel_rfl) ?_
      refine bF ?_
      refine bV [] [(11, (.sl true 0 (fun _ => .bad)))] ?_
      refine cR (fun T H => ∃ eF : List aR, ∃ lo14 : Nat, Has T [(11, (.msl 2 lo14 0 (List.length eF)))] ∧ aM ⟨H0, [], []⟩ H [(lo14, 2, List.map bE eF)] ∧ xD eF = some r) ?_ ?_
      · clear hO h0
        rintro T H ⟨eF, lo14, hT, hO, h0⟩
        refine bB hT ?_
        clear hT
        unfold xD at h0
        refine bU aG 3 [(2, (.msl 2 lo14 0 (List.length eF))), (3, (eI (0 : Int)))] ?_
        refine bK ?_
        refine cX [(2, (.msl 2 lo14 0 (List.length eF))), (3, (eI (0 : Int)))] ?_
        refine vP (en := bE) eF 0 0 2 2 lo14 (List.length eF) hO (by kernel_rfl) (by kernel_rfl) (by kernel_rfl) (L' := []) (by kernel_rfl) ?_
        intro H15 hO
        obtain rfl := oI h0
        exact aJ (Q_r hO)
      refine aZ aG 1 [] [(12, (eI (0 : Int)))] ?_
      refine bT 8 ?_
      refine cT [(4, (.msl 1 lo12 0 (List.length bD))), (5, (.msl 1 lo13 0 (List.length bN))), (11, (.sl true 0 (fun _ => .bad))), (12, (eI (0 : Int)))] ?_
      refine CO (el := (fun _ => .bad)) 2 11 2 hO (by kernel_rfl) ?_
      intro lo32 H33 hO
      refine cH (fun T H => ∃ bD : List Int, ∃ bN : List Int, ∃ eF : List aR, ∃ i12 : Int, ∃ lo19 : Nat, ∃ lo20 : Nat, ∃ lo21 : Nat, Has T [(4, (.msl 1 lo19 0 (List.length bD))), (5, (.msl 1 lo20 0 (List.length bN))), (11, (.msl 2 lo21 0 (List.length eF))), (12, (eI i12))] ∧ aM ⟨H0, [], []⟩ H [(lo19, 1, List.map (eI) bD), (lo20, 1, List.map (eI) bN), (lo21, 2, List.map bE eF)] ∧ sQ bD bN eF i12 = some r) ?_ ⟨bD, bN, ([] : List aR), (0 : Int), lo12, lo13, lo32, .eq (by kernel_rfl), hO, h0⟩
      clear hO h0
      rintro T H ⟨bD, bN, eF, i12, lo19, lo20, lo21, hT, hO, h0⟩
      refine bB hT ?_
      clear hT
      unfold sQ at h0
      obtain ⟨rr0, hl0, h0⟩ := aX h0
      refine bZ (by kernel_rfl) (fun (s : List Int × List Int × List aR × Int) T H => ∃ lo19 : Nat, ∃ lo20 : Nat, ∃ lo21 : Nat, Has T [(4, (.msl 1 lo19 0 (List.length s.1))), (5, (.msl 1 lo20 0 (List.length s.2.1))), (11, (.msl 2 lo21 0 (List.length s.2.2.1))), (12, (eI s.2.2.2))] ∧ aM ⟨H0, [], []⟩ H [(lo19, 1, List.map (eI) s.1), (lo20, 1, List.map (eI) s.2.1), (lo21, 2, List.map bE s.2.2.1)]) hl0 ⟨lo19, lo20, lo21, .eq (by kernel_rfl), hO⟩ ?_
      clear hO
      rintro k0 s out1 T H ⟨lo19, lo20, lo21, hT, hO⟩ h1 ho0
      obtain ⟨bD, bN, eF, i12⟩ := s
      replace h1 : jJ bD bN eF i12 = some out1 := h1
      try dsimp only at hT
      refine bB hT ?_
      clear hT
      unfold jJ at h1
      refine aP ?_
      refine aZ aG 4 [] [(88, (aK (decide (i12 < (lN bD)))))] ?_
      refine bJ h1 (fun h1 => ?_) (fun h1 => ?_)
      · refine bL ?_
        refine bG [(4, (.msl 1 lo19 0 (List.length bD))), (5, (.msl 1 lo20 0 (List.length bN))), (11, (.msl 2 lo21 0 (List.length eF))), (12, (eI i12))] ?_
        refine aP ?_
        refine bT 9 ?_
        refine aP ?_
        refine aU aG 7 ?_
        obtain ⟨c23, h1⟩ := bH h1
        refine mA 3 [0 ≤ i12 ∧ i12 < (lN bD)] ⟨c23, trivial⟩ ?_
        refine jZ 0 lo19 1 (0 + Int.toNat i12) (eI (gD bD i12)) (eI (gD bD i12)) (List.map (eI) bD) hO (cU c23) ?_
        refine bS 5 ?_
        refine mV 2 (bE (aR.mk 0 0)) (by kernel_rfl) (by kernel_rfl) hO ?_
        intro lo24 H hO
        refine jP 3 lo24 2 0 (bE (aR.mk 0 0)) (bE (aR.mk (gD bD i12) (1125899906842624 : Int))) [(bE (aR.mk 0 0))] [(lo19, 1, List.map (eI) bD), (lo20, 1, List.map (eI) bN), (lo21, 2, List.map bE eF), (lo24, 2, [(bE (aR.mk (gD bD i12) (1125899906842624 : Int)))])] hO rfl (by kernel_rfl) ?_
        intro H hO
        refine cQ ?_
        refine bV [] [(13, (.lp lo24 0 0))] ?_
        refine cR (fun T H => ∃ bD : List Int, ∃ bN : List Int, ∃ eF : List aR, ∃ s13 : aR, ∃ lo25 : Nat, ∃ lo26 : Nat, ∃ lo27 : Nat, Has T [(4, (.msl 1 lo25 0 (List.length bD))), (5, (.msl 1 lo26 0 (List.length bN))), (11, (.msl 2 lo27 0 (List.length eF))), (12, (eI i12)), (13, (.lp lo24 0 0))] ∧ aM ⟨H0, [], []⟩ H [(lo25, 1, List.map (eI) bD), (lo26, 1, List.map (eI) bN), (lo27, 2, List.map bE eF), (lo24, 2, [(bE s13)])] ∧ pS bD bN eF i12 s13 = some out1) ?_ ?_
        · clear hO h1
          rintro T H ⟨bD, bN, eF, s13, lo25, lo26, lo27, hT, hO, h1⟩
          refine bB hT ?_
          clear hT
          unfold pS at h1
          refine aU aG 5 ?_
          refine bS 1 ?_
          refine jZ 3 lo24 2 0 (bE s13) (bE s13) [(bE s13)] hO rfl ?_
          refine nP (xs := [(bE s13)]) (k := 2) (by kernel_rfl) (by kernel_rfl) ?_
          obtain ⟨c29, h1⟩ := bH h1
          refine xL (e := bE) eF ([s13]) 2 lo27 2 16 (dH [(bE s13)]) (fun lo28 => [(lo25, 1, List.map (eI) bD), (lo26, 1, List.map (eI) bN), (lo28, 2, List.map bE (eF ++ ([s13]))), (lo24, 2, [(bE s13)])]) (by kernel_rfl) (by kernel_rfl) hO (by kernel_rfl) (by kernel_rfl) c29 (fun _ => by kernel_rfl) ?_
          intro lo28 H hO
          refine bF ?_
          refine cX [(4, (.msl 1 lo25 0 (List.length bD))), (5, (.msl 1 lo26 0 (List.length bN))), (11, (.msl 2 lo28 0 (List.length (eF ++ ([s13]))))), (12, (eI i12))] ?_
          replace hO := hO.pick (L' := [(lo25, 1, List.map (eI) bD), (lo26, 1, List.map (eI) bN), (lo28, 2, List.map bE (eF ++ ([s13])))]) [0, 1, 2] (by decide) (by kernel_rfl)
          refine aJ (aW (aI (?_)))
          refine aU aG 3 ?_
          refine bF ?_
          exact aJ (aI (⟨rfl, _, (oI h1).symm, _, _, _, .eq (by kernel_rfl), hO⟩))
        refine aZ aG 4 [] [(99, (aK (decide (i12 < (lN bN)))))] ?_
        refine bJ h1 (fun h1 => ?_) (fun h1 => ?_)
        · refine aU aG 6 ?_
          obtain ⟨c31, h1⟩ := bH h1
          refine mA 3 [0 ≤ i12 ∧ i12 < (lN bN)] ⟨c31, trivial⟩ ?_
          refine jZ 1 lo20 1 (0 + Int.toNat i12) (eI (gD bN i12)) (eI (gD bN i12)) (List.map (eI) bN) hO (cU c31) ?_
          refine bS 5 ?_
          refine jP 3 lo24 2 0 (bE (aR.mk (gD bD i12) (1125899906842624 : Int))) (bE (aR.mk (aR.mk (gD bD i12) (1125899906842624 : Int)).From (gD bN i12))) [(bE (aR.mk (gD bD i12) (1125899906842624 : Int)))] [(lo19, 1, List.map (eI) bD), (lo20, 1, List.map (eI) bN), (lo21, 2, List.map bE eF), (lo24, 2, [(bE (aR.mk (aR.mk (gD bD i12) (1125899906842624 : Int)).From (gD bN i12)))])] hO rfl (by kernel_rfl) ?_
          intro H hO
          refine cQ ?_
          exact aJ (aI (⟨rfl, _, _, _, _, _, _, _, .eq (by kernel_rfl), hO, h1⟩))
        refine bL ?_
        exact aJ (aI (⟨rfl, _, _, _, _, _, _, _, .eq (by kernel_rfl), hO, h1⟩))
      refine cY 8 ?_
      replace hO := hO.pick (L' := [(lo21, 2, List.map bE eF)]) [2] (by decide) (by kernel_rfl)
      obtain rfl := oI h1
      obtain rfl : _ = rr0 := ho0
      replace h0 : xD eF = some r := h0
      exact aJ (aT (aT (bO (aI (⟨rfl, _, _, .eq (by kernel_rfl), hO, h0⟩)))))
    refine aZ aG 1 [] [(8, (eI (0 : Int)))] ?_
    refine bT 2 ?_
    refine cT [(0, (eL aD f0)), (4, (.msl 1 lo9 0 (List.length bD))), (5, (.msl 1 lo10 0 (List.length bN))), (8, (eI (0 : Int)))] ?_
    refine cH (fun T H => ∃ bD : List Int, ∃ bN : List Int, ∃ i8 : Int, ∃ lo36 : Nat, ∃ lo37 : Nat, Has T [(0, (eL aD f0)), (4, (.msl 1 lo36 0 (List.length bD))), (5, (.msl 1 lo37 0 (List.length bN))), (8, (eI i8))] ∧ aM ⟨H0, [], []⟩ H [(lo36, 1, List.map (eI) bD), (lo37, 1, List.map (eI) bN)] ∧ sF f0 bD bN i8 = some r) ?_ ⟨bD, bN, (0 : Int), lo9, lo10, .eq (by kernel_rfl), hO, h0⟩
    clear hO h0
    rintro T H ⟨bD, bN, i8, lo36, lo37, hT, hO, h0⟩
    refine bB hT ?_
    clear hT
    unfold sF at h0
    obtain ⟨rr0, hl0, h0⟩ := aX h0
    refine bZ (by kernel_rfl) (fun (s : List Int × List Int × Int) T H => ∃ lo36 : Nat, ∃ lo37 : Nat, Has T [(0, (eL aD f0)), (4, (.msl 1 lo36 0 (List.length s.1))), (5, (.msl 1 lo37 0 (List.length s.2.1))), (8, (eI s.2.2))] ∧ aM ⟨H0, [], []⟩ H [(lo36, 1, List.map (eI) s.1), (lo37, 1, List.map (eI) s.2.1)]) hl0 ⟨lo36, lo37, .eq (by kernel_rfl), hO⟩ ?_
    clear hO
    rintro k0 s out1 T H ⟨lo36, lo37, hT, hO⟩ h1 ho0
    obtain ⟨bD, bN, i8⟩ := s
    replace h1 : mI f0 bD bN i8 = some out1 := h1
    try dsimp only at hT
    refine bB hT ?_
    clear hT
    unfold mI at h1
    refine aP ?_
    refine aZ aG 4 [] [(46, (aK (decide (i8 < (lN f0)))))] ?_
    refine bJ h1 (fun h1 => ?_) (fun h1 => ?_)
    · refine bL ?_
      refine bG [(0, (eL aD f0)), (4, (.msl 1 lo36 0 (List.length bD))), (5, (.msl 1 lo37 0 (List.length bN))), (8, (eI i8))] ?_
      refine cR (fun T H => ∃ bD : List Int, ∃ bN : List Int, ∃ lo39 : Nat, ∃ lo40 : Nat, Has T [(0, (eL aD f0)), (4, (.msl 1 lo39 0 (List.length bD))), (5, (.msl 1 lo40 0 (List.length bN))), (8, (eI i8))] ∧ aM ⟨H0, [], []⟩ H [(lo39, 1, List.map (eI) bD), (lo40, 1, List.map (eI) bN)] ∧ sX f0 bD bN i8 = some out1) ?_ ?_
      · clear hO h1
        rintro T H ⟨bD, bN, lo39, lo40, hT, hO, h1⟩
        refine bB hT ?_
        clear hT
        unfold sX at h1
        refine aU aG 3 ?_
        refine bF ?_
        exact aJ (aI (⟨rfl, _, (oI h1).symm, _, _, .eq (by kernel_rfl), hO⟩))
      refine bT 3 ?_
      refine cR (fun T H => ∃ bD : List Int, ∃ bN : List Int, ∃ lo41 : Nat, ∃ lo42 : Nat, Has T [(0, (eL aD f0)), (4, (.msl 1 lo41 0 (List.length bD))), (5, (.msl 1 lo42 0 (List.length bN))), (8, (eI i8))] ∧ aM ⟨H0, [], []⟩ H [(lo41, 1, List.map (eI) bD), (lo42, 1, List.map (eI) bN)] ∧ sL f0 bD bN i8 = some out1) ?_ ?_
      · clear hO h1
        rintro T H ⟨bD, bN, lo41, lo42, hT, hO, h1⟩
        refine bB hT ?_
        clear hT
        unfold sL at h1
        refine aZ aG 1 [] [(10, (eI (0 : Int)))] ?_
        refine bT 6 ?_
        refine cT [(0, (eL aD f0)), (4, (.msl 1 lo41 0 (List.length bD))), (5, (.msl 1 lo42 0 (List.length bN))), (8, (eI i8)), (10, (eI (0 : Int)))] ?_
        refine cH (fun T H => ∃ bD : List Int, ∃ bN : List Int, ∃ k10 : Int, ∃ lo45 : Nat, ∃ lo46 : Nat, Has T [(0, (eL aD f0)), (4, (.msl 1 lo45 0 (List.length bD))), (5, (.msl 1 lo46 0 (List.length bN))), (8, (eI i8)), (10, (eI k10))] ∧ aM ⟨H0, [], []⟩ H [(lo45, 1, List.map (eI) bD), (lo46, 1, List.map (eI) bN)] ∧ wT f0 bD bN i8 k10 = some out1) ?_ ⟨bD, bN, (0 : Int), lo41, lo42, .eq (by kernel_rfl), hO, h1⟩
        clear hO h1
        rintro T H ⟨bD, bN, k10, lo45, lo46, hT, hO, h1⟩
        refine bB hT ?_
        clear hT
        unfold wT at h1
        obtain ⟨rr1, hl1, h1⟩ := aX h1
        refine bZ (by kernel_rfl) (fun (s : List Int × List Int × Int) T H => ∃ lo45 : Nat, ∃ lo46 : Nat, Has T [(0, (eL aD f0)), (4, (.msl 1 lo45 0 (List.length s.1))), (5, (.msl 1 lo46 0 (List.length s.2.1))), (8, (eI i8)), (10, (eI s.2.2))] ∧ aM ⟨H0, [], []⟩ H [(lo45, 1, List.map (eI) s.1), (lo46, 1, List.map (eI) s.2.1)]) hl1 ⟨lo45, lo46, .eq (by kernel_rfl), hO⟩ ?_
        clear hO
        rintro k1 s out2 T H ⟨lo45, lo46, hT, hO⟩ h2 ho1
        obtain ⟨bD, bN, k10⟩ := s
        replace h2 : mG f0 i8 bD bN k10 = some out2 := h2
        try dsimp only at hT
        refine bB hT ?_
        clear hT
        unfold mG at h2
        refine aP ?_
        refine aP ?_
        refine aU aG 8 ?_
        obtain ⟨c47, h2⟩ := bH h2
        refine tJ [0 ≤ i8 ∧ i8 < (lN f0)] ⟨c47, trivial⟩ ?_
        refine bV [] [(73, (aK (decide (k10 < (wR (0 - ((gD f0 i8).Net)))))))] ?_
        refine bJ h2 (fun h2 => ?_) (fun h2 => ?_)
        · refine bL ?_
          refine bG [(0, (eL aD f0)), (4, (.msl 1 lo45 0 (List.length bD))), (5, (.msl 1 lo46 0 (List.length bN))), (8, (eI i8)), (10, (eI k10))] ?_
          refine aP ?_
          refine bT 7 ?_
          refine aU aG 9 ?_
          obtain ⟨c49, h2⟩ := bH h2
          refine mA 6 [0 ≤ i8 ∧ i8 < (lN f0)] ⟨c49, trivial⟩ ?_
          refine nP (xs := [(eI ((gD f0 i8).At))]) (k := 1) (by kernel_rfl) (by kernel_rfl) ?_
          obtain ⟨c51, h2⟩ := bH h2
          refine xL (e := (eI)) bN ([(gD f0 i8).At]) 1 lo46 1 8 (dH [(eI ((gD f0 i8).At))]) (fun lo50 => [(lo45, 1, List.map (eI) bD), (lo50, 1, List.map (eI) (bN ++ ([(gD f0 i8).At])))]) (by kernel_rfl) (by kernel_rfl) hO (by kernel_rfl) (by kernel_rfl) c51 (fun _ => by kernel_rfl) ?_
          intro lo50 H hO
          refine bF ?_
          refine cX [(0, (eL aD f0)), (4, (.msl 1 lo45 0 (List.length bD))), (5, (.msl 1 lo50 0 (List.length (bN ++ ([(gD f0 i8).At]))))), (8, (eI i8)), (10, (eI k10))] ?_
          refine aJ (aW (aI (?_)))
          refine aU aG 3 ?_
          refine bF ?_
          exact aJ (aI (⟨rfl, _, (oI h2).symm, _, _, .eq (by kernel_rfl), hO⟩))
        refine cY 6 ?_
        obtain rfl := oI h2
        obtain rfl : _ = rr1 := ho1
        replace h1 : sX f0 bD bN i8 = some out1 := h1
        exact aJ (aT (aT (bO (aW (aI (⟨rfl, _, _, _, _, .eq (by kernel_rfl), hO, h1⟩))))))
      refine aZ aG 1 [] [(9, (eI (0 : Int)))] ?_
      refine bT 4 ?_
      refine cT [(0, (eL aD f0)), (4, (.msl 1 lo36 0 (List.length bD))), (5, (.msl 1 lo37 0 (List.length bN))), (8, (eI i8)), (9, (eI (0 : Int)))] ?_
      refine cH (fun T H => ∃ bD : List Int, ∃ bN : List Int, ∃ k9 : Int, ∃ lo54 : Nat, ∃ lo55 : Nat, Has T [(0, (eL aD f0)), (4, (.msl 1 lo54 0 (List.length bD))), (5, (.msl 1 lo55 0 (List.length bN))), (8, (eI i8)), (9, (eI k9))] ∧ aM ⟨H0, [], []⟩ H [(lo54, 1, List.map (eI) bD), (lo55, 1, List.map (eI) bN)] ∧ vF f0 bD bN i8 k9 = some out1) ?_ ⟨bD, bN, (0 : Int), lo36, lo37, .eq (by kernel_rfl), hO, h1⟩
      clear hO h1
      rintro T H ⟨bD, bN, k9, lo54, lo55, hT, hO, h1⟩
      refine bB hT ?_
      clear hT
      unfold vF at h1
      obtain ⟨rr1, hl1, h1⟩ := aX h1
      refine bZ (by kernel_rfl) (fun (s : List Int × List Int × Int) T H => ∃ lo54 : Nat, ∃ lo55 : Nat, Has T [(0, (eL aD f0)), (4, (.msl 1 lo54 0 (List.length s.1))), (5, (.msl 1 lo55 0 (List.length s.2.1))), (8, (eI i8)), (9, (eI s.2.2))] ∧ aM ⟨H0, [], []⟩ H [(lo54, 1, List.map (eI) s.1), (lo55, 1, List.map (eI) s.2.1)]) hl1 ⟨lo54, lo55, .eq (by kernel_rfl), hO⟩ ?_
      clear hO
      rintro k1 s out2 T H ⟨lo54, lo55, hT, hO⟩ h2 ho1
      obtain ⟨bD, bN, k9⟩ := s
      replace h2 : lM f0 i8 bD bN k9 = some out2 := h2
      try dsimp only at hT
      refine bB hT ?_
      clear hT
      unfold lM at h2
      refine aP ?_
      refine aP ?_
      refine aU aG 7 ?_
      obtain ⟨c56, h2⟩ := bH h2
      refine tJ [0 ≤ i8 ∧ i8 < (lN f0)] ⟨c56, trivial⟩ ?_
      refine bV [] [(55, (aK (decide (k9 < ((gD f0 i8).Net)))))] ?_
      refine bJ h2 (fun h2 => ?_) (fun h2 => ?_)
      · refine bL ?_
        refine bG [(0, (eL aD f0)), (4, (.msl 1 lo54 0 (List.length bD))), (5, (.msl 1 lo55 0 (List.length bN))), (8, (eI i8)), (9, (eI k9))] ?_
        refine aP ?_
        refine bT 5 ?_
        refine aU aG 9 ?_
        obtain ⟨c58, h2⟩ := bH h2
        refine mA 6 [0 ≤ i8 ∧ i8 < (lN f0)] ⟨c58, trivial⟩ ?_
        refine nP (xs := [(eI ((gD f0 i8).At))]) (k := 1) (by kernel_rfl) (by kernel_rfl) ?_
        obtain ⟨c60, h2⟩ := bH h2
        refine xL (e := (eI)) bD ([(gD f0 i8).At]) 0 lo54 1 8 (dH [(eI ((gD f0 i8).At))]) (fun lo59 => [(lo59, 1, List.map (eI) (bD ++ ([(gD f0 i8).At]))), (lo55, 1, List.map (eI) bN)]) (by kernel_rfl) (by kernel_rfl) hO (by kernel_rfl) (by kernel_rfl) c60 (fun _ => by kernel_rfl) ?_
        intro lo59 H hO
        refine bF ?_
        refine cX [(0, (eL aD f0)), (4, (.msl 1 lo59 0 (List.length (bD ++ ([(gD f0 i8).At]))))), (5, (.msl 1 lo55 0 (List.length bN))), (8, (eI i8)), (9, (eI k9))] ?_
        refine aJ (aW (aI (?_)))
        refine aU aG 3 ?_
        refine bF ?_
        exact aJ (aI (⟨rfl, _, (oI h2).symm, _, _, .eq (by kernel_rfl), hO⟩))
      refine cY 4 ?_
      obtain rfl := oI h2
      obtain rfl : _ = rr1 := ho1
      replace h1 : sL f0 bD bN i8 = some out1 := h1
      exact aJ (aT (aT (bO (aI (⟨rfl, _, _, _, _, .eq (by kernel_rfl), hO, h1⟩)))))
    refine cY 2 ?_
    obtain rfl := oI h1
    obtain rfl : _ = rr0 := ho0
    replace h0 : sY bD bN = some r := h0
    exact aJ (aT (aT (bO (aI (⟨rfl, _, _, _, _, .eq (by kernel_rfl), hO, h0⟩)))))
  refine aZ aG 1 [] [(7, (eI (0 : Int)))] ?_
  refine bT 0 ?_
  refine cT [(0, (eL aD f0)), (4, (.sl true 0 (fun _ => .bad))), (5, (.sl true 0 (fun _ => .bad))), (6, (eI (0 : Int))), (7, (eI (0 : Int)))] ?_
  refine CO (el := (fun _ => .bad)) 1 4 1 hO (by kernel_rfl) ?_
  intro lo71 H72 hO
  refine CO (el := (fun _ => .bad)) 2 5 1 hO (by kernel_rfl) ?_
  intro lo73 H74 hO
  refine cH (fun T H => ∃ bD : List Int, ∃ bN : List Int, ∃ n6 : Int, ∃ i7 : Int, ∃ lo63 : Nat, ∃ lo64 : Nat, Has T [(0, (eL aD f0)), (4, (.msl 1 lo63 0 (List.length bD))), (5, (.msl 1 lo64 0 (List.length bN))), (6, (eI n6)), (7, (eI i7))] ∧ aM ⟨H0, [], []⟩ H [(lo63, 1, List.map (eI) bD), (lo64, 1, List.map (eI) bN)] ∧ rO f0 bD bN n6 i7 = some r) ?_ ⟨([] : List Int), ([] : List Int), (0 : Int), (0 : Int), lo71, lo73, .eq (by kernel_rfl), hO, h0⟩
  clear hO h0
  rintro T H ⟨bD, bN, n6, i7, lo63, lo64, hT, hO, h0⟩
  refine bB hT ?_
  clear hT
  unfold rO at h0
  obtain ⟨rr0, hl0, h0⟩ := aX h0
  refine bZ (by kernel_rfl) (fun (s : List Int × List Int × Int × Int) T H => ∃ lo63 : Nat, ∃ lo64 : Nat, Has T [(0, (eL aD f0)), (4, (.msl 1 lo63 0 (List.length s.1))), (5, (.msl 1 lo64 0 (List.length s.2.1))), (6, (eI s.2.2.1)), (7, (eI s.2.2.2))] ∧ aM ⟨H0, [], []⟩ H [(lo63, 1, List.map (eI) s.1), (lo64, 1, List.map (eI) s.2.1)]) hl0 ⟨lo63, lo64, .eq (by kernel_rfl), hO⟩ ?_
  clear hO
  rintro k0 s out1 T H ⟨lo63, lo64, hT, hO⟩ h1 ho0
  obtain ⟨bD, bN, n6, i7⟩ := s
  replace h1 : lK f0 bD bN n6 i7 = some out1 := h1
  try dsimp only at hT
  refine bB hT ?_
  clear hT
  unfold lK at h1
  refine aP ?_
  refine aZ aG 4 [] [(25, (aK (decide (i7 < (lN f0)))))] ?_
  refine bJ h1 (fun h1 => ?_) (fun h1 => ?_)
  · refine bL ?_
    refine bG [(0, (eL aD f0)), (4, (.msl 1 lo63 0 (List.length bD))), (5, (.msl 1 lo64 0 (List.length bN))), (6, (eI n6)), (7, (eI i7))] ?_
    refine cR (fun T H => ∃ bD : List Int, ∃ bN : List Int, ∃ n6 : Int, ∃ lo66 : Nat, ∃ lo67 : Nat, Has T [(0, (eL aD f0)), (4, (.msl 1 lo66 0 (List.length bD))), (5, (.msl 1 lo67 0 (List.length bN))), (6, (eI n6)), (7, (eI i7))] ∧ aM ⟨H0, [], []⟩ H [(lo66, 1, List.map (eI) bD), (lo67, 1, List.map (eI) bN)] ∧ oT f0 bD bN n6 i7 = some out1) ?_ ?_
    · clear hO h1
      rintro T H ⟨bD, bN, n6, lo66, lo67, hT, hO, h1⟩
      refine bB hT ?_
      clear hT
      unfold oT at h1
      refine aU aG 3 ?_
      refine bF ?_
      exact aJ (aI (⟨rfl, _, (oI h1).symm, _, _, .eq (by kernel_rfl), hO⟩))
    refine bT 1 ?_
    refine aP ?_
    refine aU aG 6 ?_
    obtain ⟨c68, h1⟩ := bH h1
    refine tJ [0 ≤ i7 ∧ i7 < (lN f0)] ⟨c68, trivial⟩ ?_
    refine bV [] [(33, (aK (decide ((0 : Int) < ((gD f0 i7).Net)))))] ?_
    refine bJ h1 (fun h1 => ?_) (fun h1 => ?_)
    · refine aU aG 8 ?_
      obtain ⟨c70, h1⟩ := bH h1
      refine tJ [0 ≤ i7 ∧ i7 < (lN f0)] ⟨c70, trivial⟩ ?_
      exact aJ (aW (aI (⟨rfl, _, _, _, _, _, .eq (by kernel_rfl), hO, h1⟩)))
    refine bL ?_
    exact aJ (aW (aI (⟨rfl, _, _, _, _, _, .eq (by kernel_rfl), hO, h1⟩)))
  refine cY 0 ?_
  obtain rfl := oI h1
  obtain rfl : _ = rr0 := ho0
  replace h0 : pV f0 bD bN n6 = some r := h0
  exact aJ (aT (aT (bO (aI (⟨rfl, _, _, _, _, _, .eq (by kernel_rfl), hO, h0⟩)))))

theorem PF (l0 : (List aC)) (r : ((List aN) × Int)) (h0 : sG l0 = some r) : bY Tryz.prog 8 [(eL aE l0)] (.tup [(eL aL r.1), (eI r.2)]) := by
  intro H0
  refine cG Tryz.func8 ?_
  have hO := aM.start H0
  unfold sG at h0
  refine aZ aG 2 [] [] ?_
  refine aP ?_
  refine aP ?_
  refine aU aG 3 ?_
  refine bS 1 ?_
  obtain ⟨x1, hx2, h0⟩ := aX h0
  refine cF (KT l0 _ hx2) hO ?_
  intro H hO
  refine bF ?_
  refine bV [] [(12, (aK (!x1)))] ?_
  refine bJ h0 (fun h0 => ?_) (fun h0 => ?_)
  · refine bU aG 2 [(2, (.sl true 0 (fun _ => .bad))), (3, (eI (2 : Int)))] ?_
    refine bK ?_
    refine cP (l := [(2, (eL aL ([]))), (3, (eI (2 : Int)))]) ⟨[(2, (.sl true 0 (fun _ => .bad))), (3, (eI (2 : Int)))], by kernel_rfl, rfl, ⟨eD, aV.refl _, trivial⟩⟩ ?_
    obtain rfl := oI h0
    exact aJ (aS (Q_r hO))
  refine bL ?_
  refine bG [(0, (eL aE l0))] ?_
  refine aP ?_
  refine aP ?_
  refine aU aG 3 ?_
  refine bS 1 ?_
  obtain ⟨x5, hx6, h0⟩ := aX h0
  refine cF (RO l0 _ hx6) hO ?_
  intro H hO
  refine bF ?_
  refine bV [] [(15, (aK (!x5)))] ?_
  refine bJ h0 (fun h0 => ?_) (fun h0 => ?_)
  · refine bU aG 2 [(2, (.sl true 0 (fun _ => .bad))), (3, (eI (20 : Int)))] ?_
    refine bK ?_
    refine cP (l := [(2, (eL aL ([]))), (3, (eI (20 : Int)))]) ⟨[(2, (.sl true 0 (fun _ => .bad))), (3, (eI (20 : Int)))], by kernel_rfl, rfl, ⟨eD, aV.refl _, trivial⟩⟩ ?_
    obtain rfl := oI h0
    exact aJ (aS (Q_r hO))
  refine bL ?_
  refine bG [(0, (eL aE l0))] ?_
  refine aP ?_
  refine aU aG 2 ?_
  refine nP (xs := []) (k := 3) (by kernel_rfl) (by kernel_rfl) ?_
  refine bF ?_
  refine bV [] [(4, (.sl true 0 (fun _ => .bad)))] ?_
  refine aP ?_
  refine aU aG 3 ?_
  refine bS 1 ?_
  obtain ⟨x9, hx10, h0⟩ := aX h0
  refine cF (EJ l0 _ hx10) hO ?_
  intro H hO
  refine bF ?_
  refine bV [] [(5, (eL (eL aH) x9))] ?_
  refine cR (fun T H => ∃ out4 : List aN, ∃ lo12 : Nat, Has T [(4, (.msl 3 lo12 0 (List.length out4)))] ∧ aM ⟨H0, [], []⟩ H [(lo12, 3, List.map aL out4)] ∧ rG out4 = some r) ?_ ?_
  · clear hO h0
    rintro T H ⟨out4, lo12, hT, hO, h0⟩
    refine bB hT ?_
    clear hT
    unfold rG at h0
    refine bU aG 3 [(2, (.msl 3 lo12 0 (List.length out4))), (3, (eI (0 : Int)))] ?_
    refine bK ?_
    refine cX [(2, (.msl 3 lo12 0 (List.length out4))), (3, (eI (0 : Int)))] ?_
    refine vP (en := aL) out4 0 0 2 3 lo12 (List.length out4) hO (by kernel_rfl) (by kernel_rfl) (by kernel_rfl) (L' := []) (by kernel_rfl) ?_
    intro H13 hO
    obtain rfl := oI h0
    exact aJ (Q_r hO)
  refine aZ aG 1 [] [(6, (eI (0 : Int)))] ?_
  refine bT 0 ?_
  refine cT [(0, (eL aE l0)), (4, (.sl true 0 (fun _ => .bad))), (5, (eL (eL aH) x9)), (6, (eI (0 : Int)))] ?_
  refine CO (el := (fun _ => .bad)) 1 4 3 hO (by kernel_rfl) ?_
  intro lo41 H42 hO
  refine cH (fun T H => ∃ out4 : List aN, ∃ cN : (List (List aF)), ∃ i6 : Int, ∃ lo15 : Nat, Has T [(0, (eL aE l0)), (4, (.msl 3 lo15 0 (List.length out4))), (5, (eL (eL aH) cN)), (6, (eI i6))] ∧ aM ⟨H0, [], []⟩ H [(lo15, 3, List.map aL out4)] ∧ vH l0 out4 cN i6 = some r) ?_ ⟨([] : List aN), x9, (0 : Int), lo41, .eq (by kernel_rfl), hO, h0⟩
  clear hO h0
  rintro T H ⟨out4, cN, i6, lo15, hT, hO, h0⟩
  refine bB hT ?_
  clear hT
  unfold vH at h0
  obtain ⟨rr0, hl0, h0⟩ := aX h0
  refine bZ (by kernel_rfl) (fun (s : List aN × Int) T H => ∃ lo15 : Nat, Has T [(0, (eL aE l0)), (4, (.msl 3 lo15 0 (List.length s.1))), (5, (eL (eL aH) cN)), (6, (eI s.2))] ∧ aM ⟨H0, [], []⟩ H [(lo15, 3, List.map aL s.1)]) hl0 ⟨lo15, .eq (by kernel_rfl), hO⟩ ?_
  clear hO
  rintro k0 s out1 T H ⟨lo15, hT, hO⟩ h1 ho0
  obtain ⟨out4, i6⟩ := s
  replace h1 : jM l0 cN out4 i6 = some out1 := h1
  try dsimp only at hT
  refine bB hT ?_
  clear hT
  unfold jM at h1
  refine aP ?_
  refine aZ aG 4 [] [(22, (aK (decide (i6 < (lN cN)))))] ?_
  refine bJ h1 (fun h1 => ?_) (fun h1 => ?_)
  · refine bL ?_
    refine bG [(0, (eL aE l0)), (4, (.msl 3 lo15 0 (List.length out4))), (5, (eL (eL aH) cN)), (6, (eI i6))] ?_
    refine cR (fun T H => ∃ out4 : List aN, ∃ lo17 : Nat, Has T [(0, (eL aE l0)), (4, (.msl 3 lo17 0 (List.length out4))), (5, (eL (eL aH) cN)), (6, (eI i6))] ∧ aM ⟨H0, [], []⟩ H [(lo17, 3, List.map aL out4)] ∧ vI l0 out4 cN i6 = some out1) ?_ ?_
    · clear hO h1
      rintro T H ⟨out4, lo17, hT, hO, h1⟩
      refine bB hT ?_
      clear hT
      unfold vI at h1
      refine aU aG 3 ?_
      refine bF ?_
      exact aJ (aI (⟨rfl, _, (oI h1).symm, _, .eq (by kernel_rfl), hO⟩))
    refine bT 1 ?_
    refine aP ?_
    refine aU aG 12 ?_
    obtain ⟨c18, h1⟩ := bH h1
    refine mA 5 [0 ≤ i6 ∧ i6 < (lN cN)] ⟨c18, trivial⟩ ?_
    obtain ⟨x19, hx20, h1⟩ := aX h1
    refine cF (CY l0 (gD cN i6) _ hx20) hO ?_
    intro H hO
    obtain ⟨x22, hx23, h1⟩ := aX h1
    refine cF (RR x19 _ hx23) hO ?_
    intro H hO
    refine bF ?_
    refine bV [] [(7, (eL bE x22.1)), (8, (eI x22.2))] ?_
    refine aP ?_
    refine aZ aG 2 [] [(36, (aK (!decide (x22.2 = (0 : Int)))))] ?_
    refine bJ h1 (fun h1 => ?_) (fun h1 => ?_)
    · refine aP ?_
      refine aU aG 3 ?_
      refine bF ?_
      refine cX [(2, (.sl true 0 (fun _ => .bad))), (3, (eI x22.2))] ?_
      replace hO := hO.pick (L' := []) [] (by decide) (by kernel_rfl)
      refine aJ (aI (?_))
      refine bK ?_
      refine cP (l := [(2, (eL aL ([]))), (3, (eI x22.2))]) ⟨[(2, (.sl true 0 (fun _ => .bad))), (3, (eI x22.2))], by kernel_rfl, rfl, ⟨eD, aV.refl _, trivial⟩⟩ ?_
      obtain rfl := oI h1
      obtain rfl : _ = rr0 := ho0
      replace h0 : some ([], x22.2) = some r := h0
      obtain rfl := oI h0
      exact aJ (aS (bR (aS (aS (bR (aS (Q_r hO)))))))
    refine bL ?_
    refine bG [(0, (eL aE l0)), (4, (.msl 3 lo15 0 (List.length out4))), (5, (eL (eL aH) cN)), (6, (eI i6)), (7, (eL bE x22.1))] ?_
    refine cR (fun T H => ∃ out4 : List aN, ∃ lo26 : Nat, Has T [(0, (eL aE l0)), (4, (.msl 3 lo26 0 (List.length out4))), (5, (eL (eL aH) cN)), (6, (eI i6))] ∧ aM ⟨H0, [], []⟩ H [(lo26, 3, List.map aL out4)] ∧ oS l0 out4 cN i6 = some out1) ?_ ?_
    · clear hO h1
      rintro T H ⟨out4, lo26, hT, hO, h1⟩
      refine bB hT ?_
      clear hT
      unfold oS at h1
      refine aZ aG 3 [] [(60, (aK (decide ((4096 : Int) < (lN out4)))))] ?_
      refine bJ h1 (fun h1 => ?_) (fun h1 => ?_)
      · refine aP ?_
        refine aU aG 2 ?_
        refine bF ?_
        refine cX [(2, (.sl true 0 (fun _ => .bad))), (3, (eI (7 : Int)))] ?_
        replace hO := hO.pick (L' := []) [] (by decide) (by kernel_rfl)
        refine aJ (aI (?_))
        refine bK ?_
        refine cP (l := [(2, (eL aL ([]))), (3, (eI (7 : Int)))]) ⟨[(2, (.sl true 0 (fun _ => .bad))), (3, (eI (7 : Int)))], by kernel_rfl, rfl, ⟨eD, aV.refl _, trivial⟩⟩ ?_
        obtain rfl := oI h1
        obtain rfl : _ = rr0 := ho0
        replace h0 : some ([], (7 : Int)) = some r := h0
        obtain rfl := oI h0
        exact aJ (bR (aS (aS (bR (aS (Q_r hO))))))
      refine bL ?_
      exact aJ (aW (aI (⟨rfl, _, _, .eq (by kernel_rfl), hO, h1⟩)))
    refine aZ aG 1 [] [(9, (eI (0 : Int)))] ?_
    refine bT 2 ?_
    refine cT [(0, (eL aE l0)), (4, (.msl 3 lo15 0 (List.length out4))), (5, (eL (eL aH) cN)), (6, (eI i6)), (7, (eL bE x22.1)), (9, (eI (0 : Int)))] ?_
    refine cH (fun T H => ∃ out4 : List aN, ∃ s7 : (List aR), ∃ k9 : Int, ∃ lo29 : Nat, Has T [(0, (eL aE l0)), (4, (.msl 3 lo29 0 (List.length out4))), (5, (eL (eL aH) cN)), (6, (eI i6)), (7, (eL bE s7)), (9, (eI k9))] ∧ aM ⟨H0, [], []⟩ H [(lo29, 3, List.map aL out4)] ∧ rH l0 out4 cN i6 s7 k9 = some out1) ?_ ⟨out4, x22.1, (0 : Int), lo15, .eq (by kernel_rfl), hO, h1⟩
    clear hO h1
    rintro T H ⟨out4, s7, k9, lo29, hT, hO, h1⟩
    refine bB hT ?_
    clear hT
    unfold rH at h1
    obtain ⟨rr1, hl1, h1⟩ := aX h1
    refine bZ (by kernel_rfl) (fun (s : List aN × Int) T H => ∃ lo29 : Nat, Has T [(0, (eL aE l0)), (4, (.msl 3 lo29 0 (List.length s.1))), (5, (eL (eL aH) cN)), (6, (eI i6)), (7, (eL bE s7)), (9, (eI s.2))] ∧ aM ⟨H0, [], []⟩ H [(lo29, 3, List.map aL s.1)]) hl1 ⟨lo29, .eq (by kernel_rfl), hO⟩ ?_
    clear hO
    rintro k1 s out2 T H ⟨lo29, hT, hO⟩ h2 ho1
    obtain ⟨out4, k9⟩ := s
    replace h2 : lJ l0 cN i6 s7 out4 k9 = some out2 := h2
    try dsimp only at hT
    refine bB hT ?_
    clear hT
    unfold lJ at h2
    refine aP ?_
    refine aZ aG 4 [] [(41, (aK (decide (k9 < (lN s7)))))] ?_
    refine bJ h2 (fun h2 => ?_) (fun h2 => ?_)
    · refine bL ?_
      refine bG [(0, (eL aE l0)), (4, (.msl 3 lo29 0 (List.length out4))), (5, (eL (eL aH) cN)), (6, (eI i6)), (7, (eL bE s7)), (9, (eI k9))] ?_
      refine aP ?_
      refine bT 3 ?_
      refine fQ (fP [49, 54, 56]) aG 15 ?_
      refine qG 1 ?_
      refine HV (xs := []) (k := 3) (by kernel_rfl) (by kernel_rfl) ?_
      obtain ⟨c35, h2⟩ := bH h2
      refine cZ 6 [0 ≤ i6 ∧ i6 < (lN cN)] ⟨c35, trivial⟩ ?_
      obtain ⟨c37, h2⟩ := bH h2
      refine aCu (e := aH) (gD cN i6) (fun _ => .bad) 3 32 (eL aH (gD cN i6)) (by kernel_rfl) (by kernel_rfl) hO (KO (fun _ => by kernel_rfl)) c37 ?_
      intro H hO
      obtain ⟨c38, h2⟩ := bH h2
      refine cZ 12 [0 ≤ k9 ∧ k9 < (lN s7)] ⟨c38, trivial⟩ ?_
      refine HV (xs := [(aL (aN.mk (gD cN i6) (gD s7 k9)))]) (k := 3) (by kernel_rfl) (by kernel_rfl) ?_
      obtain ⟨c40, h2⟩ := bH h2
      refine GD (e := aL) out4 ([aN.mk (gD cN i6) (gD s7 k9)]) 0 lo29 3 40 (dH [(aL (aN.mk (gD cN i6) (gD s7 k9)))]) (fun lo39 => [(lo39, 3, List.map aL (out4 ++ ([aN.mk (gD cN i6) (gD s7 k9)])))]) (by kernel_rfl) (by kernel_rfl) hO (by kernel_rfl) (by kernel_rfl) c40 (fun _ => by kernel_rfl) ?_
      intro lo39 H hO
      refine jO ?_
      refine cX [(0, (eL aE l0)), (4, (.msl 3 lo39 0 (List.length (out4 ++ ([aN.mk (gD cN i6) (gD s7 k9)]))))), (5, (eL (eL aH) cN)), (6, (eI i6)), (7, (eL bE s7)), (9, (eI k9))] ?_
      refine aJ (aW (aI (?_)))
      refine aU aG 3 ?_
      refine bF ?_
      exact aJ (aI (⟨rfl, _, (oI h2).symm, _, .eq (by kernel_rfl), hO⟩))
    refine cY 2 ?_
    obtain rfl := oI h2
    obtain rfl : _ = rr1 := ho1
    replace h1 : oS l0 out4 cN i6 = some out1 := h1
    exact aJ (aT (aT (bO (aI (⟨rfl, _, _, .eq (by kernel_rfl), hO, h1⟩)))))
  refine cY 0 ?_
  obtain rfl := oI h1
  obtain rfl : _ = rr0 := ho0
  replace h0 : rG out4 = some r := h0
  exact aJ (aT (aT (bO (aI (⟨rfl, _, _, .eq (by kernel_rfl), hO, h0⟩)))))

end Go.Abs
