/- What the law EdgeRows stands on: the framework, the given functions as plain functions, their walks, and the plain laws; part 4. -/
import Derived.Test.YtbnnpfncgndidaaEdgeRowsZ3
set_option linter.unusedSimpArgs false
set_option linter.unusedVariables false
namespace Go.Abs
open Go Go.RowKit Go.Proofs
theorem w_slices_swapRangeCmpFunc_api_Jump (lo0p : Nat) (data0 : (List api_Jump)) (a1 : Int) (b2 : Int) (n3 : Int) (cmp4_f : Nat) (cmp4_a cmp4_c : List V) (cmp4 : api_Jump → api_Jump → Option Int) (cmp4_h : ∀ a0 a1 r, cmp4 a0 a1 = some r → Fine Try.prog cmp4_f (cmp4_a ++ [(e_api_Jump a0), (e_api_Jump a1)] ++ cmp4_c) (eInt .i64 r)) (r : List api_Jump) (h0 : s_slices_swapRangeCmpFunc_api_Jump data0 a1 b2 n3 cmp4 = some r) : FineI Try.prog 126 lo0p 2 (List.map e_api_Jump data0) (List.map e_api_Jump r) [(.msl 2 lo0p 0 (List.length data0)), (eInt .i64 a1), (eInt .i64 b2), (eInt .i64 n3), (.fn (.func cmp4_f) cmp4_a cmp4_c)] (.tup []) := by
  intro H0 hl0
  refine F_wk Try.func126 ?_
  have hO := Owns.start1 hl0
  clear hl0
  obtain ⟨N0, hN0⟩ : ∃ n, n = List.length data0 := ⟨_, rfl⟩
  have hN : List.length data0 = N0 := hN0.symm
  unfold s_slices_swapRangeCmpFunc_api_Jump at h0
  refine S_al ttOk 1 [4] [(10, (eInt .i64 (0 : Int)))] ?_
  refine C_bk 0 ?_
  refine C_hk [(0, (.msl 2 lo0p 0 (List.length data0))), (1, (eInt .i64 a1)), (2, (eInt .i64 b2)), (3, (eInt .i64 n3)), (10, (eInt .i64 (0 : Int)))] ?_
  refine C_cut (fun T H => ∃ data0 : List api_Jump, ∃ i10 : Int, Has T [(0, (.msl 2 lo0p 0 (List.length data0))), (1, (eInt .i64 a1)), (2, (eInt .i64 b2)), (3, (eInt .i64 n3)), (10, (eInt .i64 i10))] ∧ Owns ⟨H0, [lo0p], []⟩ H [(lo0p, 2, List.map e_api_Jump data0)] ∧ List.length data0 = N0 ∧ slices_swapRangeCmpFunc_api_Jump_h1 cmp4 data0 a1 b2 n3 i10 = some r) ?_ ⟨data0, (0 : Int), .eq (by kernel_rfl), hO, hN, h0⟩
  clear hO hN h0
  rintro T H ⟨data0, i10, hT, hO, hN, h0⟩
  refine C_has hT ?_
  clear hT
  unfold slices_swapRangeCmpFunc_api_Jump_h1 at h0
  obtain ⟨rr0, hl0, h0⟩ := bindE h0
  refine C_loopS (by kernel_rfl) (fun (s : List api_Jump × Int) T H => Has T [(0, (.msl 2 lo0p 0 (List.length s.1))), (1, (eInt .i64 a1)), (2, (eInt .i64 b2)), (3, (eInt .i64 n3)), (10, (eInt .i64 s.2))] ∧ Owns ⟨H0, [lo0p], []⟩ H [(lo0p, 2, List.map e_api_Jump s.1)] ∧ List.length s.1 = N0) hl0 ⟨.eq (by kernel_rfl), hO, hN⟩ ?_
  clear hO hN
  rintro k0 s out1 T H ⟨hT, hO, hN⟩ h1 ho0
  obtain ⟨data0, i10⟩ := s
  replace h1 : slices_swapRangeCmpFunc_api_Jump_l1 cmp4 a1 b2 n3 data0 i10 = some out1 := h1
  dsimp only at hT
  refine C_has hT ?_
  clear hT
  unfold slices_swapRangeCmpFunc_api_Jump_l1 at h1
  refine C_sq ?_
  refine S_al ttOk 3 [] [(13, (eBool (decide (i10 < n3))))] ?_
  refine C_cd h1 (fun h1 => ?_) (fun h1 => ?_)
  · refine C_sk ?_
    refine E_tn [(0, (.msl 2 lo0p 0 (List.length data0))), (1, (eInt .i64 a1)), (2, (eInt .i64 b2)), (3, (eInt .i64 n3)), (10, (eInt .i64 i10))] ?_
    refine C_sq ?_
    refine C_bk 1 ?_
    refine C_dg (plOf []) ttOk 24 ?_
    obtain ⟨c2, h1⟩ := asrtE h1
    refine D_ps 13 [0 ≤ (IntKind.i64.wrap (b2 + i10)) ∧ (IntKind.i64.wrap (b2 + i10)) < ((List.length data0 : Nat) : Int)] ⟨c2, trivial⟩ ?_
    refine D_lO 0 lo0p 2 (0 + Int.toNat (IntKind.i64.wrap (b2 + i10))) (e_api_Jump (List.getD data0 (Int.toNat (IntKind.i64.wrap (b2 + i10))) default)) (e_api_Jump (List.getD data0 (Int.toNat (IntKind.i64.wrap (b2 + i10))) default)) (List.map e_api_Jump data0) hO (ownGet c2) ?_
    obtain ⟨c3, h1⟩ := asrtE h1
    refine D_ps 19 [0 ≤ (IntKind.i64.wrap (a1 + i10)) ∧ (IntKind.i64.wrap (a1 + i10)) < ((List.length data0 : Nat) : Int)] ⟨c3, trivial⟩ ?_
    refine D_lO 0 lo0p 2 (0 + Int.toNat (IntKind.i64.wrap (a1 + i10))) (e_api_Jump (List.getD data0 (Int.toNat (IntKind.i64.wrap (a1 + i10))) default)) (e_api_Jump (List.getD data0 (Int.toNat (IntKind.i64.wrap (a1 + i10))) default)) (List.map e_api_Jump data0) hO (ownGet c3) ?_
    obtain ⟨c4, h1⟩ := asrtE h1
    refine D_ps 21 [0 ≤ (IntKind.i64.wrap (a1 + i10)) ∧ (IntKind.i64.wrap (a1 + i10)) < ((List.length data0 : Nat) : Int)] ⟨c4, trivial⟩ ?_
    refine D_sO 0 lo0p 2 (0 + Int.toNat (IntKind.i64.wrap (a1 + i10))) (e_api_Jump (List.getD data0 (Int.toNat (IntKind.i64.wrap (a1 + i10))) default)) (e_api_Jump (List.getD data0 (Int.toNat (IntKind.i64.wrap (b2 + i10))) default)) (List.map e_api_Jump data0) [(lo0p, 2, List.map e_api_Jump (List.set data0 (Int.toNat (IntKind.i64.wrap (a1 + i10))) (List.getD data0 (Int.toNat (IntKind.i64.wrap (b2 + i10))) default)))] hO (ownGet c4) (by simp only [List.set, ownSet]) ?_
    intro H hO
    replace hN : List.length (List.set data0 (Int.toNat (IntKind.i64.wrap (a1 + i10))) (List.getD data0 (Int.toNat (IntKind.i64.wrap (b2 + i10))) default)) = N0 := by simpa using hN
    obtain ⟨c5, h1⟩ := asrtE h1
    refine D_ps 23 [0 ≤ (IntKind.i64.wrap (b2 + i10)) ∧ (IntKind.i64.wrap (b2 + i10)) < ((List.length data0 : Nat) : Int)] ⟨c5, trivial⟩ ?_
    refine D_sO 0 lo0p 2 (0 + Int.toNat (IntKind.i64.wrap (b2 + i10))) (e_api_Jump (List.getD (List.set data0 (Int.toNat (IntKind.i64.wrap (a1 + i10))) (List.getD data0 (Int.toNat (IntKind.i64.wrap (b2 + i10))) default)) (Int.toNat (IntKind.i64.wrap (b2 + i10))) default)) (e_api_Jump (List.getD data0 (Int.toNat (IntKind.i64.wrap (a1 + i10))) default)) (List.map e_api_Jump (List.set data0 (Int.toNat (IntKind.i64.wrap (a1 + i10))) (List.getD data0 (Int.toNat (IntKind.i64.wrap (b2 + i10))) default))) [(lo0p, 2, List.map e_api_Jump (List.set (List.set data0 (Int.toNat (IntKind.i64.wrap (a1 + i10))) (List.getD data0 (Int.toNat (IntKind.i64.wrap (b2 + i10))) default)) (Int.toNat (IntKind.i64.wrap (b2 + i10))) (List.getD data0 (Int.toNat (IntKind.i64.wrap (a1 + i10))) default)))] hO (ownGetN c5 (by simp [])) (by simp only [List.set, ownSet]) ?_
    intro H hO
    replace hN : List.length (List.set (List.set data0 (Int.toNat (IntKind.i64.wrap (a1 + i10))) (List.getD data0 (Int.toNat (IntKind.i64.wrap (b2 + i10))) default)) (Int.toNat (IntKind.i64.wrap (b2 + i10))) (List.getD data0 (Int.toNat (IntKind.i64.wrap (a1 + i10))) default)) = N0 := by simpa using hN
    refine D_end (by kernel_rfl) ?_
    refine E_has (l := [(0, (.msl 2 lo0p 0 (List.length (List.set (List.set data0 (Int.toNat (IntKind.i64.wrap (a1 + i10))) (List.getD data0 (Int.toNat (IntKind.i64.wrap (b2 + i10))) default)) (Int.toNat (IntKind.i64.wrap (b2 + i10))) (List.getD data0 (Int.toNat (IntKind.i64.wrap (a1 + i10))) default))))), (1, (eInt .i64 a1)), (2, (eInt .i64 b2)), (3, (eInt .i64 n3)), (10, (eInt .i64 i10))]) ⟨[(0, (.msl 2 lo0p 0 (List.length data0))), (1, (eInt .i64 a1)), (2, (eInt .i64 b2)), (3, (eInt .i64 n3)), (10, (eInt .i64 i10))], by kernel_rfl, rfl, ⟨SubV.eq (by simp []), SubV.refl _, SubV.refl _, SubV.refl _, SubV.refl _, trivial⟩⟩ ?_
    refine E_done (blockA_normal (thenA_normal (?_)))
    refine C_rg ttOk 3 ?_
    refine R_al ?_
    exact E_done (thenA_normal (⟨rfl, (List.set (List.set data0 (Int.toNat (IntKind.i64.wrap (a1 + i10))) (List.getD data0 (Int.toNat (IntKind.i64.wrap (b2 + i10))) default)) (Int.toNat (IntKind.i64.wrap (b2 + i10))) (List.getD data0 (Int.toNat (IntKind.i64.wrap (a1 + i10))) default), IntKind.i64.wrap (i10 + (1 : Int))), (Option.some.inj h1).symm, .eq (by kernel_rfl), hO, hN⟩))
  refine C_ex 0 ?_
  obtain rfl := Option.some.inj h1
  obtain rfl : _ = rr0 := ho0
  replace h0 : some data0 = some r := h0
  obtain rfl := Option.some.inj h0
  exact E_done (thenA_exit (thenA_exit (blockA_hit (Q_end (x := (.tup [])) (by kernel_rfl) (SubV.refl _) ⟨rfl, hO.ext, hO.at 0 (by kernel_rfl), by simp only [List.length_map]; exact hN.trans hN0⟩))))

theorem w_slices_rotateCmpFunc_api_Jump (lo0p : Nat) (data0 : (List api_Jump)) (a1 : Int) (m2 : Int) (b3 : Int) (cmp4_f : Nat) (cmp4_a cmp4_c : List V) (cmp4 : api_Jump → api_Jump → Option Int) (cmp4_h : ∀ a0 a1 r, cmp4 a0 a1 = some r → Fine Try.prog cmp4_f (cmp4_a ++ [(e_api_Jump a0), (e_api_Jump a1)] ++ cmp4_c) (eInt .i64 r)) (r : List api_Jump) (h0 : s_slices_rotateCmpFunc_api_Jump data0 a1 m2 b3 cmp4 = some r) : FineI Try.prog 125 lo0p 2 (List.map e_api_Jump data0) (List.map e_api_Jump r) [(.msl 2 lo0p 0 (List.length data0)), (eInt .i64 a1), (eInt .i64 m2), (eInt .i64 b3), (.fn (.func cmp4_f) cmp4_a cmp4_c)] (.tup []) := by
  intro H0 hl0
  refine F_wk Try.func125 ?_
  have hO := Owns.start1 hl0
  clear hl0
  obtain ⟨N0, hN0⟩ : ∃ n, n = List.length data0 := ⟨_, rfl⟩
  have hN : List.length data0 = N0 := hN0.symm
  unfold s_slices_rotateCmpFunc_api_Jump at h0
  refine S_al ttOk 4 [1] [(10, (eInt .i64 (IntKind.i64.wrap (m2 - a1))))] ?_
  refine S_al ttOk 4 [3] [(11, (eInt .i64 (IntKind.i64.wrap (b3 - m2))))] ?_
  refine C_sj (fun T H => ∃ data0 : List api_Jump, ∃ i10 : Int, Has T [(0, (.msl 2 lo0p 0 (List.length data0))), (2, (eInt .i64 m2)), (4, (.fn (.func cmp4_f) cmp4_a cmp4_c)), (10, (eInt .i64 i10))] ∧ Owns ⟨H0, [lo0p], []⟩ H [(lo0p, 2, List.map e_api_Jump data0)] ∧ List.length data0 = N0 ∧ slices_rotateCmpFunc_api_Jump_j1 cmp4 data0 m2 i10 = some r) ?_ ?_
  · clear hO hN h0
    rintro T H ⟨data0, i10, hT, hO, hN, h0⟩
    refine C_has hT ?_
    clear hT
    unfold slices_rotateCmpFunc_api_Jump_j1 at h0
    refine C_rg ttOk 8 ?_
    refine R_pu 7 ?_
    obtain ⟨x1, hx2, h0⟩ := bindE h0
    refine R_callI (L' := [(lo0p, 2, List.map e_api_Jump x1)]) 0 lo0p 2 (List.map e_api_Jump data0) (List.map e_api_Jump x1) 126 [(.msl 2 lo0p 0 (List.length data0)), (eInt .i64 (IntKind.i64.wrap (m2 - i10))), (eInt .i64 m2), (eInt .i64 i10), (.fn (.func cmp4_f) cmp4_a cmp4_c)] (.tup []) (by kernel_rfl) (by kernel_rfl) (w_slices_swapRangeCmpFunc_api_Jump lo0p data0 (IntKind.i64.wrap (m2 - i10)) m2 i10 cmp4_f cmp4_a cmp4_c cmp4 cmp4_h _ hx2) hO (by kernel_rfl) (by kernel_rfl) ?_
    intro H hO hl3
    simp only [List.length_map] at hl3
    replace hN := hl3.trans hN
    refine R_en ?_
    refine E_has (l := [(0, (.msl 2 lo0p 0 (List.length x1)))]) ⟨[(0, (.msl 2 lo0p 0 (List.length data0)))], by kernel_rfl, rfl, ⟨SubV.eq (by simp [hl3]), trivial⟩⟩ ?_
    obtain rfl := Option.some.inj h0
    exact E_done (Q_end (x := (.tup [])) (by kernel_rfl) (SubV.refl _) ⟨rfl, hO.ext, hO.at 0 (by kernel_rfl), by simp only [List.length_map]; exact hN.trans hN0⟩)
  refine C_bk 0 ?_
  refine C_hk [(0, (.msl 2 lo0p 0 (List.length data0))), (2, (eInt .i64 m2)), (4, (.fn (.func cmp4_f) cmp4_a cmp4_c)), (10, (eInt .i64 (IntKind.i64.wrap (m2 - a1)))), (11, (eInt .i64 (IntKind.i64.wrap (b3 - m2))))] ?_
  refine C_cut (fun T H => ∃ data0 : List api_Jump, ∃ i10 : Int, ∃ j11 : Int, Has T [(0, (.msl 2 lo0p 0 (List.length data0))), (2, (eInt .i64 m2)), (4, (.fn (.func cmp4_f) cmp4_a cmp4_c)), (10, (eInt .i64 i10)), (11, (eInt .i64 j11))] ∧ Owns ⟨H0, [lo0p], []⟩ H [(lo0p, 2, List.map e_api_Jump data0)] ∧ List.length data0 = N0 ∧ slices_rotateCmpFunc_api_Jump_h2 cmp4 data0 m2 i10 j11 = some r) ?_ ⟨data0, IntKind.i64.wrap (m2 - a1), IntKind.i64.wrap (b3 - m2), .eq (by kernel_rfl), hO, hN, h0⟩
  clear hO hN h0
  rintro T H ⟨data0, i10, j11, hT, hO, hN, h0⟩
  refine C_has hT ?_
  clear hT
  unfold slices_rotateCmpFunc_api_Jump_h2 at h0
  obtain ⟨rr0, hl0, h0⟩ := bindE h0
  refine C_loopS (by kernel_rfl) (fun (s : List api_Jump × Int × Int) T H => Has T [(0, (.msl 2 lo0p 0 (List.length s.1))), (2, (eInt .i64 m2)), (4, (.fn (.func cmp4_f) cmp4_a cmp4_c)), (10, (eInt .i64 s.2.1)), (11, (eInt .i64 s.2.2))] ∧ Owns ⟨H0, [lo0p], []⟩ H [(lo0p, 2, List.map e_api_Jump s.1)] ∧ List.length s.1 = N0) hl0 ⟨.eq (by kernel_rfl), hO, hN⟩ ?_
  clear hO hN
  rintro k0 s out1 T H ⟨hT, hO, hN⟩ h1 ho0
  obtain ⟨data0, i10, j11⟩ := s
  replace h1 : slices_rotateCmpFunc_api_Jump_l2 cmp4 m2 data0 i10 j11 = some out1 := h1
  dsimp only at hT
  refine C_has hT ?_
  clear hT
  unfold slices_rotateCmpFunc_api_Jump_l2 at h1
  refine C_sq ?_
  refine S_al ttOk 3 [] [(20, (eBool (!decide (i10 = j11))))] ?_
  refine C_cd h1 (fun h1 => ?_) (fun h1 => ?_)
  · refine C_sk ?_
    refine E_tn [(0, (.msl 2 lo0p 0 (List.length data0))), (2, (eInt .i64 m2)), (4, (.fn (.func cmp4_f) cmp4_a cmp4_c)), (10, (eInt .i64 i10)), (11, (eInt .i64 j11))] ?_
    refine C_bk 1 ?_
    refine S_al ttOk 3 [] [(23, (eBool (decide (j11 < i10))))] ?_
    refine C_cd h1 (fun h1 => ?_) (fun h1 => ?_)
    · refine C_sq ?_
      refine C_rg ttOk 8 ?_
      refine R_pu 7 ?_
      obtain ⟨x6, hx7, h1⟩ := bindE h1
      refine R_callI (L' := [(lo0p, 2, List.map e_api_Jump x6)]) 0 lo0p 2 (List.map e_api_Jump data0) (List.map e_api_Jump x6) 126 [(.msl 2 lo0p 0 (List.length data0)), (eInt .i64 (IntKind.i64.wrap (m2 - i10))), (eInt .i64 m2), (eInt .i64 j11), (.fn (.func cmp4_f) cmp4_a cmp4_c)] (.tup []) (by kernel_rfl) (by kernel_rfl) (w_slices_swapRangeCmpFunc_api_Jump lo0p data0 (IntKind.i64.wrap (m2 - i10)) m2 j11 cmp4_f cmp4_a cmp4_c cmp4 cmp4_h _ hx7) hO (by kernel_rfl) (by kernel_rfl) ?_
      intro H hO hl8
      simp only [List.length_map] at hl8
      replace hN := hl8.trans hN
      refine R_en ?_
      refine E_has (l := [(0, (.msl 2 lo0p 0 (List.length x6))), (2, (eInt .i64 m2)), (4, (.fn (.func cmp4_f) cmp4_a cmp4_c)), (10, (eInt .i64 i10)), (11, (eInt .i64 j11))]) ⟨[(0, (.msl 2 lo0p 0 (List.length data0))), (2, (eInt .i64 m2)), (4, (.fn (.func cmp4_f) cmp4_a cmp4_c)), (10, (eInt .i64 i10)), (11, (eInt .i64 j11))], by kernel_rfl, rfl, ⟨SubV.eq (by simp [hl8]), SubV.refl _, SubV.refl _, SubV.refl _, SubV.refl _, trivial⟩⟩ ?_
      refine E_done (thenA_normal (?_))
      refine C_rg ttOk 4 ?_
      refine R_al ?_
      exact E_done (blockA_normal (thenA_normal (⟨rfl, (x6, IntKind.i64.wrap (i10 - j11), j11), (Option.some.inj h1).symm, .eq (by kernel_rfl), hO, hN⟩)))
    refine C_sq ?_
    refine C_rg ttOk 12 ?_
    refine R_pu 11 ?_
    obtain ⟨x9, hx10, h1⟩ := bindE h1
    refine R_callI (L' := [(lo0p, 2, List.map e_api_Jump x9)]) 0 lo0p 2 (List.map e_api_Jump data0) (List.map e_api_Jump x9) 126 [(.msl 2 lo0p 0 (List.length data0)), (eInt .i64 (IntKind.i64.wrap (m2 - i10))), (eInt .i64 (IntKind.i64.wrap ((IntKind.i64.wrap (m2 + j11)) - i10))), (eInt .i64 i10), (.fn (.func cmp4_f) cmp4_a cmp4_c)] (.tup []) (by kernel_rfl) (by kernel_rfl) (w_slices_swapRangeCmpFunc_api_Jump lo0p data0 (IntKind.i64.wrap (m2 - i10)) (IntKind.i64.wrap ((IntKind.i64.wrap (m2 + j11)) - i10)) i10 cmp4_f cmp4_a cmp4_c cmp4 cmp4_h _ hx10) hO (by kernel_rfl) (by kernel_rfl) ?_
    intro H hO hl11
    simp only [List.length_map] at hl11
    replace hN := hl11.trans hN
    refine R_en ?_
    refine E_has (l := [(0, (.msl 2 lo0p 0 (List.length x9))), (2, (eInt .i64 m2)), (4, (.fn (.func cmp4_f) cmp4_a cmp4_c)), (10, (eInt .i64 i10)), (11, (eInt .i64 j11))]) ⟨[(0, (.msl 2 lo0p 0 (List.length data0))), (2, (eInt .i64 m2)), (4, (.fn (.func cmp4_f) cmp4_a cmp4_c)), (10, (eInt .i64 i10)), (11, (eInt .i64 j11))], by kernel_rfl, rfl, ⟨SubV.eq (by simp [hl11]), SubV.refl _, SubV.refl _, SubV.refl _, SubV.refl _, trivial⟩⟩ ?_
    refine E_done (thenA_normal (?_))
    refine C_rg ttOk 4 ?_
    refine R_al ?_
    exact E_done (blockA_normal (thenA_normal (⟨rfl, (x9, i10, IntKind.i64.wrap (j11 - i10)), (Option.some.inj h1).symm, .eq (by kernel_rfl), hO, hN⟩)))
  refine C_ex 0 ?_
  obtain rfl := Option.some.inj h1
  obtain rfl : _ = rr0 := ho0
  replace h0 : slices_rotateCmpFunc_api_Jump_j1 cmp4 data0 m2 i10 = some r := h0
  exact E_done (thenA_exit (thenA_exit (blockA_hit (thenA_normal (⟨rfl, data0, i10, .eq (by kernel_rfl), hO, hN, h0⟩)))))

theorem w_slices_symMergeCmpFunc_api_Jump_step (cmp4_f : Nat) (cmp4_a cmp4_c : List V) (cmp4 : api_Jump → api_Jump → Option Int) (cmp4_h : ∀ a0 a1 r, cmp4 a0 a1 = some r → Fine Try.prog cmp4_f (cmp4_a ++ [(e_api_Jump a0), (e_api_Jump a1)] ++ cmp4_c) (eInt .i64 r)) (rec : (List api_Jump) → Int → Int → Int → Option (List api_Jump)) (ih : ∀ (lo0p : Nat) (data0 : (List api_Jump)) (a1 : Int) (m2 : Int) (b3 : Int) (r : List api_Jump), rec data0 a1 m2 b3 = some r → FineI Try.prog 122 lo0p 2 (List.map e_api_Jump data0) (List.map e_api_Jump r) [(.msl 2 lo0p 0 (List.length data0)), (eInt .i64 a1), (eInt .i64 m2), (eInt .i64 b3), (.fn (.func cmp4_f) cmp4_a cmp4_c)] (.tup [])) (lo0p : Nat) (data0 : (List api_Jump)) (a1 : Int) (m2 : Int) (b3 : Int) (r : List api_Jump) (h0 : slices_symMergeCmpFunc_api_Jump_step cmp4 rec data0 a1 m2 b3 = some r) : FineI Try.prog 122 lo0p 2 (List.map e_api_Jump data0) (List.map e_api_Jump r) [(.msl 2 lo0p 0 (List.length data0)), (eInt .i64 a1), (eInt .i64 m2), (eInt .i64 b3), (.fn (.func cmp4_f) cmp4_a cmp4_c)] (.tup []) := by
  intro H0 hl0
  refine F_wk Try.func122 ?_
  have hO := Owns.start1 hl0
  clear hl0
  obtain ⟨N0, hN0⟩ : ∃ n, n = List.length data0 := ⟨_, rfl⟩
  have hN : List.length data0 = N0 := hN0.symm
  unfold slices_symMergeCmpFunc_api_Jump_step at h0
  refine C_sj (fun T H => ∃ data0 : List api_Jump, Has T [(0, (.msl 2 lo0p 0 (List.length data0))), (1, (eInt .i64 a1)), (2, (eInt .i64 m2)), (3, (eInt .i64 b3)), (4, (.fn (.func cmp4_f) cmp4_a cmp4_c))] ∧ Owns ⟨H0, [lo0p], []⟩ H [(lo0p, 2, List.map e_api_Jump data0)] ∧ List.length data0 = N0 ∧ slices_symMergeCmpFunc_api_Jump_j1 cmp4 rec data0 a1 m2 b3 = some r) ?_ ?_
  · clear hO hN h0
    rintro T H ⟨data0, hT, hO, hN, h0⟩
    refine C_has hT ?_
    clear hT
    unfold slices_symMergeCmpFunc_api_Jump_j1 at h0
    refine C_sj (fun T H => ∃ data0 : List api_Jump, Has T [(0, (.msl 2 lo0p 0 (List.length data0))), (1, (eInt .i64 a1)), (2, (eInt .i64 m2)), (3, (eInt .i64 b3)), (4, (.fn (.func cmp4_f) cmp4_a cmp4_c))] ∧ Owns ⟨H0, [lo0p], []⟩ H [(lo0p, 2, List.map e_api_Jump data0)] ∧ List.length data0 = N0 ∧ slices_symMergeCmpFunc_api_Jump_j2 cmp4 rec data0 a1 m2 b3 = some r) ?_ ?_
    · clear hO hN h0
      rintro T H ⟨data0, hT, hO, hN, h0⟩
      refine C_has hT ?_
      clear hT
      unfold slices_symMergeCmpFunc_api_Jump_j2 at h0
      refine C_sq ?_
      refine C_rg ttOk 7 ?_
      obtain ⟨c1, h0⟩ := asrtE h0
      refine R_as [0 ≤ (1 : Int)] ⟨c1, trivial⟩ ?_
      refine E_ad [] [(18, (eInt .i64 (IntKind.i64.wrap (Int.fdiv (IntKind.u64.wrap (IntKind.i64.wrap (a1 + b3))) (2 ^ (min (Int.toNat (1 : Int)) 64))))))] ?_
      refine S_al ttOk 4 [] [(19, (eInt .i64 (IntKind.i64.wrap ((IntKind.i64.wrap (Int.fdiv (IntKind.u64.wrap (IntKind.i64.wrap (a1 + b3))) (2 ^ (min (Int.toNat (1 : Int)) 64)))) + m2))))] ?_
      refine S_al ttOk 2 [] [] ?_
      refine C_sj (fun T H => ∃ data0 : List api_Jump, ∃ mid18 : Int, ∃ n19 : Int, ∃ start20 : Int, ∃ r21 : Int, Has T [(0, (.msl 2 lo0p 0 (List.length data0))), (1, (eInt .i64 a1)), (2, (eInt .i64 m2)), (3, (eInt .i64 b3)), (4, (.fn (.func cmp4_f) cmp4_a cmp4_c)), (18, (eInt .i64 mid18)), (19, (eInt .i64 n19)), (20, (eInt .i64 start20)), (21, (eInt .i64 r21))] ∧ Owns ⟨H0, [lo0p], []⟩ H [(lo0p, 2, List.map e_api_Jump data0)] ∧ List.length data0 = N0 ∧ slices_symMergeCmpFunc_api_Jump_j3 cmp4 rec data0 a1 m2 b3 mid18 n19 start20 r21 = some r) ?_ ?_
      · clear hO hN h0
        rintro T H ⟨data0, mid18, n19, start20, r21, hT, hO, hN, h0⟩
        refine C_has hT ?_
        clear hT
        unfold slices_symMergeCmpFunc_api_Jump_j3 at h0
        refine S_al ttOk 3 [] [(22, (eInt .i64 (IntKind.i64.wrap (n19 - (1 : Int)))))] ?_
        refine C_sj (fun T H => ∃ data0 : List api_Jump, ∃ start20 : Int, Has T [(0, (.msl 2 lo0p 0 (List.length data0))), (1, (eInt .i64 a1)), (2, (eInt .i64 m2)), (3, (eInt .i64 b3)), (4, (.fn (.func cmp4_f) cmp4_a cmp4_c)), (18, (eInt .i64 mid18)), (19, (eInt .i64 n19)), (20, (eInt .i64 start20))] ∧ Owns ⟨H0, [lo0p], []⟩ H [(lo0p, 2, List.map e_api_Jump data0)] ∧ List.length data0 = N0 ∧ slices_symMergeCmpFunc_api_Jump_j4 cmp4 rec data0 a1 m2 b3 mid18 n19 start20 = some r) ?_ ?_
        · clear hO hN h0
          rintro T H ⟨data0, start20, hT, hO, hN, h0⟩
          refine C_has hT ?_
          clear hT
          unfold slices_symMergeCmpFunc_api_Jump_j4 at h0
          refine S_al ttOk 4 [19] [(24, (eInt .i64 (IntKind.i64.wrap (n19 - start20))))] ?_
          refine C_sj (fun T H => ∃ data0 : List api_Jump, ∃ end24 : Int, Has T [(0, (.msl 2 lo0p 0 (List.length data0))), (1, (eInt .i64 a1)), (3, (eInt .i64 b3)), (4, (.fn (.func cmp4_f) cmp4_a cmp4_c)), (18, (eInt .i64 mid18)), (20, (eInt .i64 start20)), (24, (eInt .i64 end24))] ∧ Owns ⟨H0, [lo0p], []⟩ H [(lo0p, 2, List.map e_api_Jump data0)] ∧ List.length data0 = N0 ∧ slices_symMergeCmpFunc_api_Jump_j5 cmp4 rec data0 a1 b3 mid18 start20 end24 = some r) ?_ ?_
          · clear hO hN h0
            rintro T H ⟨data0, end24, hT, hO, hN, h0⟩
            refine C_has hT ?_
            clear hT
            unfold slices_symMergeCmpFunc_api_Jump_j5 at h0
            refine C_sj (fun T H => ∃ data0 : List api_Jump, Has T [(0, (.msl 2 lo0p 0 (List.length data0))), (3, (eInt .i64 b3)), (4, (.fn (.func cmp4_f) cmp4_a cmp4_c)), (18, (eInt .i64 mid18)), (24, (eInt .i64 end24))] ∧ Owns ⟨H0, [lo0p], []⟩ H [(lo0p, 2, List.map e_api_Jump data0)] ∧ List.length data0 = N0 ∧ slices_symMergeCmpFunc_api_Jump_j6 cmp4 rec data0 b3 mid18 end24 = some r) ?_ ?_
            · clear hO hN h0
              rintro T H ⟨data0, hT, hO, hN, h0⟩
              refine C_has hT ?_
              clear hT
              unfold slices_symMergeCmpFunc_api_Jump_j6 at h0
              refine S_al ttOk 8 [] [(213, (eBool ((decide (mid18 < end24)) && (decide (end24 < b3)))))] ?_
              refine C_cd h0 (fun h0 => ?_) (fun h0 => ?_)
              · refine C_rg ttOk 6 ?_
                refine R_pu 5 ?_
                obtain ⟨x3, hx4, h0⟩ := bindE h0
                refine R_callI (L' := [(lo0p, 2, List.map e_api_Jump x3)]) 0 lo0p 2 (List.map e_api_Jump data0) (List.map e_api_Jump x3) 122 [(.msl 2 lo0p 0 (List.length data0)), (eInt .i64 mid18), (eInt .i64 end24), (eInt .i64 b3), (.fn (.func cmp4_f) cmp4_a cmp4_c)] (.tup []) (by kernel_rfl) (by kernel_rfl) (ih lo0p data0 mid18 end24 b3 _ hx4) hO (by kernel_rfl) (by kernel_rfl) ?_
                intro H hO hl5
                simp only [List.length_map] at hl5
                replace hN := hl5.trans hN
                refine R_en ?_
                refine E_has (l := [(0, (.msl 2 lo0p 0 (List.length x3)))]) ⟨[(0, (.msl 2 lo0p 0 (List.length data0)))], by kernel_rfl, rfl, ⟨SubV.eq (by simp [hl5]), trivial⟩⟩ ?_
                obtain rfl := Option.some.inj h0
                exact E_done (Q_end (x := (.tup [])) (by kernel_rfl) (SubV.refl _) ⟨rfl, hO.ext, hO.at 0 (by kernel_rfl), by simp only [List.length_map]; exact hN.trans hN0⟩)
              refine C_sk ?_
              obtain rfl := Option.some.inj h0
              exact E_done (Q_end (x := (.tup [])) (by kernel_rfl) (SubV.refl _) ⟨rfl, hO.ext, hO.at 0 (by kernel_rfl), by simp only [List.length_map]; exact hN.trans hN0⟩)
            refine S_al ttOk 8 [] [(199, (eBool ((decide (a1 < start20)) && (decide (start20 < mid18)))))] ?_
            refine C_cd h0 (fun h0 => ?_) (fun h0 => ?_)
            · refine C_rg ttOk 6 ?_
              refine R_pu 5 ?_
              obtain ⟨x7, hx8, h0⟩ := bindE h0
              refine R_callI (L' := [(lo0p, 2, List.map e_api_Jump x7)]) 0 lo0p 2 (List.map e_api_Jump data0) (List.map e_api_Jump x7) 122 [(.msl 2 lo0p 0 (List.length data0)), (eInt .i64 a1), (eInt .i64 start20), (eInt .i64 mid18), (.fn (.func cmp4_f) cmp4_a cmp4_c)] (.tup []) (by kernel_rfl) (by kernel_rfl) (ih lo0p data0 a1 start20 mid18 _ hx8) hO (by kernel_rfl) (by kernel_rfl) ?_
              intro H hO hl9
              simp only [List.length_map] at hl9
              replace hN := hl9.trans hN
              refine R_en ?_
              refine E_has (l := [(0, (.msl 2 lo0p 0 (List.length x7))), (3, (eInt .i64 b3)), (4, (.fn (.func cmp4_f) cmp4_a cmp4_c)), (18, (eInt .i64 mid18)), (24, (eInt .i64 end24))]) ⟨[(0, (.msl 2 lo0p 0 (List.length data0))), (3, (eInt .i64 b3)), (4, (.fn (.func cmp4_f) cmp4_a cmp4_c)), (18, (eInt .i64 mid18)), (24, (eInt .i64 end24))], by kernel_rfl, rfl, ⟨SubV.eq (by simp [hl9]), SubV.refl _, SubV.refl _, SubV.refl _, SubV.refl _, trivial⟩⟩ ?_
              exact E_done (thenA_normal (⟨rfl, x7, .eq (by kernel_rfl), hO, hN, h0⟩))
            refine C_sk ?_
            exact E_done (thenA_normal (⟨rfl, data0, .eq (by kernel_rfl), hO, hN, h0⟩))
          refine S_al ttOk 8 [] [(185, (eBool ((decide (start20 < m2)) && (decide (m2 < (IntKind.i64.wrap (n19 - start20)))))))] ?_
          refine C_cd h0 (fun h0 => ?_) (fun h0 => ?_)
          · refine C_rg ttOk 6 ?_
            refine R_pu 5 ?_
            obtain ⟨x11, hx12, h0⟩ := bindE h0
            refine R_callI (L' := [(lo0p, 2, List.map e_api_Jump x11)]) 0 lo0p 2 (List.map e_api_Jump data0) (List.map e_api_Jump x11) 125 [(.msl 2 lo0p 0 (List.length data0)), (eInt .i64 start20), (eInt .i64 m2), (eInt .i64 (IntKind.i64.wrap (n19 - start20))), (.fn (.func cmp4_f) cmp4_a cmp4_c)] (.tup []) (by kernel_rfl) (by kernel_rfl) (w_slices_rotateCmpFunc_api_Jump lo0p data0 start20 m2 (IntKind.i64.wrap (n19 - start20)) cmp4_f cmp4_a cmp4_c cmp4 cmp4_h _ hx12) hO (by kernel_rfl) (by kernel_rfl) ?_
            intro H hO hl13
            simp only [List.length_map] at hl13
            replace hN := hl13.trans hN
            refine R_en ?_
            refine E_has (l := [(0, (.msl 2 lo0p 0 (List.length x11))), (1, (eInt .i64 a1)), (3, (eInt .i64 b3)), (4, (.fn (.func cmp4_f) cmp4_a cmp4_c)), (18, (eInt .i64 mid18)), (20, (eInt .i64 start20)), (24, (eInt .i64 (IntKind.i64.wrap (n19 - start20))))]) ⟨[(0, (.msl 2 lo0p 0 (List.length data0))), (1, (eInt .i64 a1)), (3, (eInt .i64 b3)), (4, (.fn (.func cmp4_f) cmp4_a cmp4_c)), (18, (eInt .i64 mid18)), (20, (eInt .i64 start20)), (24, (eInt .i64 (IntKind.i64.wrap (n19 - start20))))], by kernel_rfl, rfl, ⟨SubV.eq (by simp [hl13]), SubV.refl _, SubV.refl _, SubV.refl _, SubV.refl _, SubV.refl _, SubV.refl _, trivial⟩⟩ ?_
            exact E_done (thenA_normal (⟨rfl, x11, IntKind.i64.wrap (n19 - start20), .eq (by kernel_rfl), hO, hN, h0⟩))
          refine C_sk ?_
          exact E_done (thenA_normal (⟨rfl, data0, IntKind.i64.wrap (n19 - start20), .eq (by kernel_rfl), hO, hN, h0⟩))
        refine C_bk 8 ?_
        refine C_hk [(0, (.msl 2 lo0p 0 (List.length data0))), (1, (eInt .i64 a1)), (2, (eInt .i64 m2)), (3, (eInt .i64 b3)), (4, (.fn (.func cmp4_f) cmp4_a cmp4_c)), (18, (eInt .i64 mid18)), (19, (eInt .i64 n19)), (20, (eInt .i64 start20)), (21, (eInt .i64 r21)), (22, (eInt .i64 (IntKind.i64.wrap (n19 - (1 : Int)))))] ?_
        refine C_cut (fun T H => ∃ data0 : List api_Jump, ∃ start20 : Int, ∃ r21 : Int, ∃ p22 : Int, Has T [(0, (.msl 2 lo0p 0 (List.length data0))), (1, (eInt .i64 a1)), (2, (eInt .i64 m2)), (3, (eInt .i64 b3)), (4, (.fn (.func cmp4_f) cmp4_a cmp4_c)), (18, (eInt .i64 mid18)), (19, (eInt .i64 n19)), (20, (eInt .i64 start20)), (21, (eInt .i64 r21)), (22, (eInt .i64 p22))] ∧ Owns ⟨H0, [lo0p], []⟩ H [(lo0p, 2, List.map e_api_Jump data0)] ∧ List.length data0 = N0 ∧ slices_symMergeCmpFunc_api_Jump_h7 cmp4 rec data0 a1 m2 b3 mid18 n19 start20 r21 p22 = some r) ?_ ⟨data0, start20, r21, IntKind.i64.wrap (n19 - (1 : Int)), .eq (by kernel_rfl), hO, hN, h0⟩
        clear hO hN h0
        rintro T H ⟨data0, start20, r21, p22, hT, hO, hN, h0⟩
        refine C_has hT ?_
        clear hT
        unfold slices_symMergeCmpFunc_api_Jump_h7 at h0
        obtain ⟨rr0, hl0, h0⟩ := bindE h0
        refine C_loopS (by kernel_rfl) (fun (s : List api_Jump × Int × Int) T H => Has T [(0, (.msl 2 lo0p 0 (List.length s.1))), (1, (eInt .i64 a1)), (2, (eInt .i64 m2)), (3, (eInt .i64 b3)), (4, (.fn (.func cmp4_f) cmp4_a cmp4_c)), (18, (eInt .i64 mid18)), (19, (eInt .i64 n19)), (20, (eInt .i64 s.2.1)), (21, (eInt .i64 s.2.2)), (22, (eInt .i64 p22))] ∧ Owns ⟨H0, [lo0p], []⟩ H [(lo0p, 2, List.map e_api_Jump s.1)] ∧ List.length s.1 = N0) hl0 ⟨.eq (by kernel_rfl), hO, hN⟩ ?_
        clear hO hN
        rintro k0 s out1 T H ⟨hT, hO, hN⟩ h1 ho0
        obtain ⟨data0, start20, r21⟩ := s
        replace h1 : slices_symMergeCmpFunc_api_Jump_l7 cmp4 rec a1 m2 b3 mid18 n19 p22 data0 start20 r21 = some out1 := h1
        dsimp only at hT
        refine C_has hT ?_
        clear hT
        unfold slices_symMergeCmpFunc_api_Jump_l7 at h1
        refine C_sq ?_
        refine S_al ttOk 3 [] [(151, (eBool (decide (start20 < r21))))] ?_
        refine C_cd h1 (fun h1 => ?_) (fun h1 => ?_)
        · refine C_sk ?_
          refine E_tn [(0, (.msl 2 lo0p 0 (List.length data0))), (1, (eInt .i64 a1)), (2, (eInt .i64 m2)), (3, (eInt .i64 b3)), (4, (.fn (.func cmp4_f) cmp4_a cmp4_c)), (18, (eInt .i64 mid18)), (19, (eInt .i64 n19)), (20, (eInt .i64 start20)), (21, (eInt .i64 r21)), (22, (eInt .i64 p22))] ?_
          refine C_bk 9 ?_
          refine C_sq ?_
          refine C_rg ttOk 7 ?_
          obtain ⟨c15, h1⟩ := asrtE h1
          refine R_as [0 ≤ (1 : Int)] ⟨c15, trivial⟩ ?_
          refine E_ad [] [(23, (eInt .i64 (IntKind.i64.wrap (Int.fdiv (IntKind.u64.wrap (IntKind.i64.wrap (start20 + r21))) (2 ^ (min (Int.toNat (1 : Int)) 64))))))] ?_
          refine C_sq ?_
          refine C_dg (plOf []) ttOk 14 ?_
          obtain ⟨c16, h1⟩ := asrtE h1
          refine D_ps 6 [0 ≤ (IntKind.i64.wrap (p22 - (IntKind.i64.wrap (Int.fdiv (IntKind.u64.wrap (IntKind.i64.wrap (start20 + r21))) (2 ^ (min (Int.toNat (1 : Int)) 64)))))) ∧ (IntKind.i64.wrap (p22 - (IntKind.i64.wrap (Int.fdiv (IntKind.u64.wrap (IntKind.i64.wrap (start20 + r21))) (2 ^ (min (Int.toNat (1 : Int)) 64)))))) < ((List.length data0 : Nat) : Int)] ⟨c16, trivial⟩ ?_
          refine D_lO 0 lo0p 2 (0 + Int.toNat (IntKind.i64.wrap (p22 - (IntKind.i64.wrap (Int.fdiv (IntKind.u64.wrap (IntKind.i64.wrap (start20 + r21))) (2 ^ (min (Int.toNat (1 : Int)) 64))))))) (e_api_Jump (List.getD data0 (Int.toNat (IntKind.i64.wrap (p22 - (IntKind.i64.wrap (Int.fdiv (IntKind.u64.wrap (IntKind.i64.wrap (start20 + r21))) (2 ^ (min (Int.toNat (1 : Int)) 64))))))) default)) (e_api_Jump (List.getD data0 (Int.toNat (IntKind.i64.wrap (p22 - (IntKind.i64.wrap (Int.fdiv (IntKind.u64.wrap (IntKind.i64.wrap (start20 + r21))) (2 ^ (min (Int.toNat (1 : Int)) 64))))))) default)) (List.map e_api_Jump data0) hO (ownGet c16) ?_
          obtain ⟨c17, h1⟩ := asrtE h1
          refine D_ps 10 [0 ≤ (IntKind.i64.wrap (Int.fdiv (IntKind.u64.wrap (IntKind.i64.wrap (start20 + r21))) (2 ^ (min (Int.toNat (1 : Int)) 64)))) ∧ (IntKind.i64.wrap (Int.fdiv (IntKind.u64.wrap (IntKind.i64.wrap (start20 + r21))) (2 ^ (min (Int.toNat (1 : Int)) 64)))) < ((List.length data0 : Nat) : Int)] ⟨c17, trivial⟩ ?_
          refine D_lO 0 lo0p 2 (0 + Int.toNat (IntKind.i64.wrap (Int.fdiv (IntKind.u64.wrap (IntKind.i64.wrap (start20 + r21))) (2 ^ (min (Int.toNat (1 : Int)) 64))))) (e_api_Jump (List.getD data0 (Int.toNat (IntKind.i64.wrap (Int.fdiv (IntKind.u64.wrap (IntKind.i64.wrap (start20 + r21))) (2 ^ (min (Int.toNat (1 : Int)) 64))))) default)) (e_api_Jump (List.getD data0 (Int.toNat (IntKind.i64.wrap (Int.fdiv (IntKind.u64.wrap (IntKind.i64.wrap (start20 + r21))) (2 ^ (min (Int.toNat (1 : Int)) 64))))) default)) (List.map e_api_Jump data0) hO (ownGet c17) ?_
          obtain ⟨x18, hx19, h1⟩ := bindE h1
          refine D_callO cmp4_f (cmp4_a ++ [(e_api_Jump (List.getD data0 (Int.toNat (IntKind.i64.wrap (p22 - (IntKind.i64.wrap (Int.fdiv (IntKind.u64.wrap (IntKind.i64.wrap (start20 + r21))) (2 ^ (min (Int.toNat (1 : Int)) 64))))))) default)), (e_api_Jump (List.getD data0 (Int.toNat (IntKind.i64.wrap (Int.fdiv (IntKind.u64.wrap (IntKind.i64.wrap (start20 + r21))) (2 ^ (min (Int.toNat (1 : Int)) 64))))) default))] ++ cmp4_c) (eInt .i64 x18) (by kernel_rfl) (by kernel_rfl) (cmp4_h (List.getD data0 (Int.toNat (IntKind.i64.wrap (p22 - (IntKind.i64.wrap (Int.fdiv (IntKind.u64.wrap (IntKind.i64.wrap (start20 + r21))) (2 ^ (min (Int.toNat (1 : Int)) 64))))))) default) (List.getD data0 (Int.toNat (IntKind.i64.wrap (Int.fdiv (IntKind.u64.wrap (IntKind.i64.wrap (start20 + r21))) (2 ^ (min (Int.toNat (1 : Int)) 64))))) default) _ hx19) hO ?_
          intro H hO
          refine D_al ?_
          refine E_ad [] [(171, (eBool (!(decide (x18 < (0 : Int))))))] ?_
          refine C_cd h1 (fun h1 => ?_) (fun h1 => ?_)
          · refine C_rg ttOk 3 ?_
            refine R_al ?_
            exact E_done (blockA_normal (thenA_normal (⟨rfl, (data0, IntKind.i64.wrap ((IntKind.i64.wrap (Int.fdiv (IntKind.u64.wrap (IntKind.i64.wrap (start20 + r21))) (2 ^ (min (Int.toNat (1 : Int)) 64)))) + (1 : Int)), r21), (Option.some.inj h1).symm, .eq (by kernel_rfl), hO, hN⟩)))
          refine C_rg ttOk 2 ?_
          refine R_al ?_
          exact E_done (blockA_normal (thenA_normal (⟨rfl, (data0, start20, IntKind.i64.wrap (Int.fdiv (IntKind.u64.wrap (IntKind.i64.wrap (start20 + r21))) (2 ^ (min (Int.toNat (1 : Int)) 64)))), (Option.some.inj h1).symm, .eq (by kernel_rfl), hO, hN⟩)))
        refine C_ex 8 ?_
        obtain rfl := Option.some.inj h1
        obtain rfl : _ = rr0 := ho0
        replace h0 : slices_symMergeCmpFunc_api_Jump_j4 cmp4 rec data0 a1 m2 b3 mid18 n19 start20 = some r := h0
        exact E_done (thenA_exit (thenA_exit (blockA_hit (thenA_normal (⟨rfl, data0, start20, .eq (by kernel_rfl), hO, hN, h0⟩)))))
      refine S_al ttOk 3 [] [(140, (eBool (decide ((IntKind.i64.wrap (Int.fdiv (IntKind.u64.wrap (IntKind.i64.wrap (a1 + b3))) (2 ^ (min (Int.toNat (1 : Int)) 64)))) < m2))))] ?_
      refine C_cd h0 (fun h0 => ?_) (fun h0 => ?_)
      · refine S_tn ttOk 4 [(0, (.msl 2 lo0p 0 (List.length data0))), (1, (eInt .i64 a1)), (2, (eInt .i64 m2)), (3, (eInt .i64 b3)), (4, (.fn (.func cmp4_f) cmp4_a cmp4_c)), (18, (eInt .i64 (IntKind.i64.wrap (Int.fdiv (IntKind.u64.wrap (IntKind.i64.wrap (a1 + b3))) (2 ^ (min (Int.toNat (1 : Int)) 64)))))), (19, (eInt .i64 (IntKind.i64.wrap ((IntKind.i64.wrap (Int.fdiv (IntKind.u64.wrap (IntKind.i64.wrap (a1 + b3))) (2 ^ (min (Int.toNat (1 : Int)) 64)))) + m2)))), (20, (eInt .i64 (IntKind.i64.wrap ((IntKind.i64.wrap ((IntKind.i64.wrap (Int.fdiv (IntKind.u64.wrap (IntKind.i64.wrap (a1 + b3))) (2 ^ (min (Int.toNat (1 : Int)) 64)))) + m2)) - b3))))] ?_
        refine C_rg ttOk 2 ?_
        refine R_al ?_
        exact E_done (thenA_normal (⟨rfl, data0, IntKind.i64.wrap (Int.fdiv (IntKind.u64.wrap (IntKind.i64.wrap (a1 + b3))) (2 ^ (min (Int.toNat (1 : Int)) 64))), IntKind.i64.wrap ((IntKind.i64.wrap (Int.fdiv (IntKind.u64.wrap (IntKind.i64.wrap (a1 + b3))) (2 ^ (min (Int.toNat (1 : Int)) 64)))) + m2), IntKind.i64.wrap ((IntKind.i64.wrap ((IntKind.i64.wrap (Int.fdiv (IntKind.u64.wrap (IntKind.i64.wrap (a1 + b3))) (2 ^ (min (Int.toNat (1 : Int)) 64)))) + m2)) - b3), IntKind.i64.wrap (Int.fdiv (IntKind.u64.wrap (IntKind.i64.wrap (a1 + b3))) (2 ^ (min (Int.toNat (1 : Int)) 64))), .eq (by kernel_rfl), hO, hN, h0⟩))
      refine S_tn ttOk 2 [(0, (.msl 2 lo0p 0 (List.length data0))), (1, (eInt .i64 a1)), (2, (eInt .i64 m2)), (3, (eInt .i64 b3)), (4, (.fn (.func cmp4_f) cmp4_a cmp4_c)), (18, (eInt .i64 (IntKind.i64.wrap (Int.fdiv (IntKind.u64.wrap (IntKind.i64.wrap (a1 + b3))) (2 ^ (min (Int.toNat (1 : Int)) 64)))))), (19, (eInt .i64 (IntKind.i64.wrap ((IntKind.i64.wrap (Int.fdiv (IntKind.u64.wrap (IntKind.i64.wrap (a1 + b3))) (2 ^ (min (Int.toNat (1 : Int)) 64)))) + m2)))), (20, (eInt .i64 a1))] ?_
      refine C_rg ttOk 2 ?_
      refine R_al ?_
      exact E_done (thenA_normal (⟨rfl, data0, IntKind.i64.wrap (Int.fdiv (IntKind.u64.wrap (IntKind.i64.wrap (a1 + b3))) (2 ^ (min (Int.toNat (1 : Int)) 64))), IntKind.i64.wrap ((IntKind.i64.wrap (Int.fdiv (IntKind.u64.wrap (IntKind.i64.wrap (a1 + b3))) (2 ^ (min (Int.toNat (1 : Int)) 64)))) + m2), a1, m2, .eq (by kernel_rfl), hO, hN, h0⟩))
    refine S_al ttOk 4 [] [(80, (eBool (decide ((IntKind.i64.wrap (b3 - m2)) = (1 : Int)))))] ?_
    refine C_cd h0 (fun h0 => ?_) (fun h0 => ?_)
    · refine S_al ttOk 2 [1, 3, 80] [(14, (eInt .i64 a1))] ?_
      refine S_al ttOk 2 [] [(15, (eInt .i64 m2))] ?_
      refine C_sj (fun T H => ∃ data0 : List api_Jump, ∃ i14 : Int, Has T [(0, (.msl 2 lo0p 0 (List.length data0))), (2, (eInt .i64 m2)), (14, (eInt .i64 i14))] ∧ Owns ⟨H0, [lo0p], []⟩ H [(lo0p, 2, List.map e_api_Jump data0)] ∧ List.length data0 = N0 ∧ slices_symMergeCmpFunc_api_Jump_j8 cmp4 rec data0 m2 i14 = some r) ?_ ?_
      · clear hO hN h0
        rintro T H ⟨data0, i14, hT, hO, hN, h0⟩
        refine C_has hT ?_
        clear hT
        unfold slices_symMergeCmpFunc_api_Jump_j8 at h0
        refine C_sj (fun T H => ∃ data0 : List api_Jump, Has T [(0, (.msl 2 lo0p 0 (List.length data0)))] ∧ Owns ⟨H0, [lo0p], []⟩ H [(lo0p, 2, List.map e_api_Jump data0)] ∧ List.length data0 = N0 ∧ slices_symMergeCmpFunc_api_Jump_j9 cmp4 rec data0 = some r) ?_ ?_
        · clear hO hN h0
          rintro T H ⟨data0, hT, hO, hN, h0⟩
          refine C_has hT ?_
          clear hT
          unfold slices_symMergeCmpFunc_api_Jump_j9 at h0
          refine C_rt ?_
          obtain rfl := Option.some.inj h0
          exact E_done (thenA_ret (Q_ret (x := (.tup [])) (by kernel_rfl) (SubV.refl _) ⟨rfl, hO.ext, hO.at 0 (by kernel_rfl), by simp only [List.length_map]; exact hN.trans hN0⟩))
        refine S_al ttOk 2 [2] [(17, (eInt .i64 m2))] ?_
        refine C_bk 6 ?_
        refine C_hk [(0, (.msl 2 lo0p 0 (List.length data0))), (14, (eInt .i64 i14)), (17, (eInt .i64 m2))] ?_
        refine C_cut (fun T H => ∃ data0 : List api_Jump, ∃ k17 : Int, Has T [(0, (.msl 2 lo0p 0 (List.length data0))), (14, (eInt .i64 i14)), (17, (eInt .i64 k17))] ∧ Owns ⟨H0, [lo0p], []⟩ H [(lo0p, 2, List.map e_api_Jump data0)] ∧ List.length data0 = N0 ∧ slices_symMergeCmpFunc_api_Jump_h10 cmp4 rec data0 i14 k17 = some r) ?_ ⟨data0, m2, .eq (by kernel_rfl), hO, hN, h0⟩
        clear hO hN h0
        rintro T H ⟨data0, k17, hT, hO, hN, h0⟩
        refine C_has hT ?_
        clear hT
        unfold slices_symMergeCmpFunc_api_Jump_h10 at h0
        obtain ⟨rr0, hl0, h0⟩ := bindE h0
        refine C_loopS (by kernel_rfl) (fun (s : List api_Jump × Int) T H => Has T [(0, (.msl 2 lo0p 0 (List.length s.1))), (14, (eInt .i64 i14)), (17, (eInt .i64 s.2))] ∧ Owns ⟨H0, [lo0p], []⟩ H [(lo0p, 2, List.map e_api_Jump s.1)] ∧ List.length s.1 = N0) hl0 ⟨.eq (by kernel_rfl), hO, hN⟩ ?_
        clear hO hN
        rintro k0 s out1 T H ⟨hT, hO, hN⟩ h1 ho0
        obtain ⟨data0, k17⟩ := s
        replace h1 : slices_symMergeCmpFunc_api_Jump_l10 cmp4 rec i14 data0 k17 = some out1 := h1
        dsimp only at hT
        refine C_has hT ?_
        clear hT
        unfold slices_symMergeCmpFunc_api_Jump_l10 at h1
        refine C_sq ?_
        refine S_al ttOk 3 [] [(110, (eBool (decide (i14 < k17))))] ?_
        refine C_cd h1 (fun h1 => ?_) (fun h1 => ?_)
        · refine C_sk ?_
          refine E_tn [(0, (.msl 2 lo0p 0 (List.length data0))), (14, (eInt .i64 i14)), (17, (eInt .i64 k17))] ?_
          refine C_sq ?_
          refine C_bk 7 ?_
          refine C_dg (plOf []) ttOk 18 ?_
          obtain ⟨c25, h1⟩ := asrtE h1
          refine D_ps 9 [0 ≤ (IntKind.i64.wrap (k17 - (1 : Int))) ∧ (IntKind.i64.wrap (k17 - (1 : Int))) < ((List.length data0 : Nat) : Int)] ⟨c25, trivial⟩ ?_
          refine D_lO 0 lo0p 2 (0 + Int.toNat (IntKind.i64.wrap (k17 - (1 : Int)))) (e_api_Jump (List.getD data0 (Int.toNat (IntKind.i64.wrap (k17 - (1 : Int)))) default)) (e_api_Jump (List.getD data0 (Int.toNat (IntKind.i64.wrap (k17 - (1 : Int)))) default)) (List.map e_api_Jump data0) hO (ownGet c25) ?_
          obtain ⟨c26, h1⟩ := asrtE h1
          refine D_ps 13 [0 ≤ k17 ∧ k17 < ((List.length data0 : Nat) : Int)] ⟨c26, trivial⟩ ?_
          refine D_lO 0 lo0p 2 (0 + Int.toNat k17) (e_api_Jump (List.getD data0 (Int.toNat k17) default)) (e_api_Jump (List.getD data0 (Int.toNat k17) default)) (List.map e_api_Jump data0) hO (ownGet c26) ?_
          obtain ⟨c27, h1⟩ := asrtE h1
          refine D_ps 15 [0 ≤ k17 ∧ k17 < ((List.length data0 : Nat) : Int)] ⟨c27, trivial⟩ ?_
          refine D_sO 0 lo0p 2 (0 + Int.toNat k17) (e_api_Jump (List.getD data0 (Int.toNat k17) default)) (e_api_Jump (List.getD data0 (Int.toNat (IntKind.i64.wrap (k17 - (1 : Int)))) default)) (List.map e_api_Jump data0) [(lo0p, 2, List.map e_api_Jump (List.set data0 (Int.toNat k17) (List.getD data0 (Int.toNat (IntKind.i64.wrap (k17 - (1 : Int)))) default)))] hO (ownGet c27) (by simp only [List.set, ownSet]) ?_
          intro H hO
          replace hN : List.length (List.set data0 (Int.toNat k17) (List.getD data0 (Int.toNat (IntKind.i64.wrap (k17 - (1 : Int)))) default)) = N0 := by simpa using hN
          obtain ⟨c28, h1⟩ := asrtE h1
          refine D_ps 17 [0 ≤ (IntKind.i64.wrap (k17 - (1 : Int))) ∧ (IntKind.i64.wrap (k17 - (1 : Int))) < ((List.length data0 : Nat) : Int)] ⟨c28, trivial⟩ ?_
          refine D_sO 0 lo0p 2 (0 + Int.toNat (IntKind.i64.wrap (k17 - (1 : Int)))) (e_api_Jump (List.getD (List.set data0 (Int.toNat k17) (List.getD data0 (Int.toNat (IntKind.i64.wrap (k17 - (1 : Int)))) default)) (Int.toNat (IntKind.i64.wrap (k17 - (1 : Int)))) default)) (e_api_Jump (List.getD data0 (Int.toNat k17) default)) (List.map e_api_Jump (List.set data0 (Int.toNat k17) (List.getD data0 (Int.toNat (IntKind.i64.wrap (k17 - (1 : Int)))) default))) [(lo0p, 2, List.map e_api_Jump (List.set (List.set data0 (Int.toNat k17) (List.getD data0 (Int.toNat (IntKind.i64.wrap (k17 - (1 : Int)))) default)) (Int.toNat (IntKind.i64.wrap (k17 - (1 : Int)))) (List.getD data0 (Int.toNat k17) default)))] hO (ownGetN c28 (by simp [])) (by simp only [List.set, ownSet]) ?_
          intro H hO
          replace hN : List.length (List.set (List.set data0 (Int.toNat k17) (List.getD data0 (Int.toNat (IntKind.i64.wrap (k17 - (1 : Int)))) default)) (Int.toNat (IntKind.i64.wrap (k17 - (1 : Int)))) (List.getD data0 (Int.toNat k17) default)) = N0 := by simpa using hN
          refine D_end (by kernel_rfl) ?_
          refine E_has (l := [(0, (.msl 2 lo0p 0 (List.length (List.set (List.set data0 (Int.toNat k17) (List.getD data0 (Int.toNat (IntKind.i64.wrap (k17 - (1 : Int)))) default)) (Int.toNat (IntKind.i64.wrap (k17 - (1 : Int)))) (List.getD data0 (Int.toNat k17) default))))), (14, (eInt .i64 i14)), (17, (eInt .i64 k17))]) ⟨[(0, (.msl 2 lo0p 0 (List.length data0))), (14, (eInt .i64 i14)), (17, (eInt .i64 k17))], by kernel_rfl, rfl, ⟨SubV.eq (by simp []), SubV.refl _, SubV.refl _, trivial⟩⟩ ?_
          refine E_done (blockA_normal (thenA_normal (?_)))
          refine C_rg ttOk 3 ?_
          refine R_al ?_
          exact E_done (thenA_normal (⟨rfl, (List.set (List.set data0 (Int.toNat k17) (List.getD data0 (Int.toNat (IntKind.i64.wrap (k17 - (1 : Int)))) default)) (Int.toNat (IntKind.i64.wrap (k17 - (1 : Int)))) (List.getD data0 (Int.toNat k17) default), IntKind.i64.wrap (k17 - (1 : Int))), (Option.some.inj h1).symm, .eq (by kernel_rfl), hO, hN⟩))
        refine C_ex 6 ?_
        obtain rfl := Option.some.inj h1
        obtain rfl : _ = rr0 := ho0
        replace h0 : slices_symMergeCmpFunc_api_Jump_j9 cmp4 rec data0 = some r := h0
        exact E_done (thenA_exit (thenA_exit (blockA_hit (thenA_normal (⟨rfl, data0, .eq (by kernel_rfl), hO, hN, h0⟩)))))
      refine C_bk 4 ?_
      refine C_hk [(0, (.msl 2 lo0p 0 (List.length data0))), (2, (eInt .i64 m2)), (4, (.fn (.func cmp4_f) cmp4_a cmp4_c)), (14, (eInt .i64 a1)), (15, (eInt .i64 m2))] ?_
      refine C_cut (fun T H => ∃ data0 : List api_Jump, ∃ i14 : Int, ∃ j15 : Int, Has T [(0, (.msl 2 lo0p 0 (List.length data0))), (2, (eInt .i64 m2)), (4, (.fn (.func cmp4_f) cmp4_a cmp4_c)), (14, (eInt .i64 i14)), (15, (eInt .i64 j15))] ∧ Owns ⟨H0, [lo0p], []⟩ H [(lo0p, 2, List.map e_api_Jump data0)] ∧ List.length data0 = N0 ∧ slices_symMergeCmpFunc_api_Jump_h11 cmp4 rec data0 m2 i14 j15 = some r) ?_ ⟨data0, a1, m2, .eq (by kernel_rfl), hO, hN, h0⟩
      clear hO hN h0
      rintro T H ⟨data0, i14, j15, hT, hO, hN, h0⟩
      refine C_has hT ?_
      clear hT
      unfold slices_symMergeCmpFunc_api_Jump_h11 at h0
      obtain ⟨rr0, hl0, h0⟩ := bindE h0
      refine C_loopS (by kernel_rfl) (fun (s : List api_Jump × Int × Int) T H => Has T [(0, (.msl 2 lo0p 0 (List.length s.1))), (2, (eInt .i64 m2)), (4, (.fn (.func cmp4_f) cmp4_a cmp4_c)), (14, (eInt .i64 s.2.1)), (15, (eInt .i64 s.2.2))] ∧ Owns ⟨H0, [lo0p], []⟩ H [(lo0p, 2, List.map e_api_Jump s.1)] ∧ List.length s.1 = N0) hl0 ⟨.eq (by kernel_rfl), hO, hN⟩ ?_
      clear hO hN
      rintro k0 s out1 T H ⟨hT, hO, hN⟩ h1 ho0
      obtain ⟨data0, i14, j15⟩ := s
      replace h1 : slices_symMergeCmpFunc_api_Jump_l11 cmp4 rec m2 data0 i14 j15 = some out1 := h1
      dsimp only at hT
      refine C_has hT ?_
      clear hT
      unfold slices_symMergeCmpFunc_api_Jump_l11 at h1
      refine C_sq ?_
      refine S_al ttOk 3 [] [(85, (eBool (decide (i14 < j15))))] ?_
      refine C_cd h1 (fun h1 => ?_) (fun h1 => ?_)
      · refine C_sk ?_
        refine E_tn [(0, (.msl 2 lo0p 0 (List.length data0))), (2, (eInt .i64 m2)), (4, (.fn (.func cmp4_f) cmp4_a cmp4_c)), (14, (eInt .i64 i14)), (15, (eInt .i64 j15))] ?_
        refine C_bk 5 ?_
        refine C_sq ?_
        refine C_rg ttOk 7 ?_
        obtain ⟨c30, h1⟩ := asrtE h1
        refine R_as [0 ≤ (1 : Int)] ⟨c30, trivial⟩ ?_
        refine E_ad [] [(16, (eInt .i64 (IntKind.i64.wrap (Int.fdiv (IntKind.u64.wrap (IntKind.i64.wrap (i14 + j15))) (2 ^ (min (Int.toNat (1 : Int)) 64))))))] ?_
        refine C_sq ?_
        refine C_dg (plOf []) ttOk 12 ?_
        obtain ⟨c31, h1⟩ := asrtE h1
        refine D_ps 4 [0 ≤ m2 ∧ m2 < ((List.length data0 : Nat) : Int)] ⟨c31, trivial⟩ ?_
        refine D_lO 0 lo0p 2 (0 + Int.toNat m2) (e_api_Jump (List.getD data0 (Int.toNat m2) default)) (e_api_Jump (List.getD data0 (Int.toNat m2) default)) (List.map e_api_Jump data0) hO (ownGet c31) ?_
        obtain ⟨c32, h1⟩ := asrtE h1
        refine D_ps 8 [0 ≤ (IntKind.i64.wrap (Int.fdiv (IntKind.u64.wrap (IntKind.i64.wrap (i14 + j15))) (2 ^ (min (Int.toNat (1 : Int)) 64)))) ∧ (IntKind.i64.wrap (Int.fdiv (IntKind.u64.wrap (IntKind.i64.wrap (i14 + j15))) (2 ^ (min (Int.toNat (1 : Int)) 64)))) < ((List.length data0 : Nat) : Int)] ⟨c32, trivial⟩ ?_
        refine D_lO 0 lo0p 2 (0 + Int.toNat (IntKind.i64.wrap (Int.fdiv (IntKind.u64.wrap (IntKind.i64.wrap (i14 + j15))) (2 ^ (min (Int.toNat (1 : Int)) 64))))) (e_api_Jump (List.getD data0 (Int.toNat (IntKind.i64.wrap (Int.fdiv (IntKind.u64.wrap (IntKind.i64.wrap (i14 + j15))) (2 ^ (min (Int.toNat (1 : Int)) 64))))) default)) (e_api_Jump (List.getD data0 (Int.toNat (IntKind.i64.wrap (Int.fdiv (IntKind.u64.wrap (IntKind.i64.wrap (i14 + j15))) (2 ^ (min (Int.toNat (1 : Int)) 64))))) default)) (List.map e_api_Jump data0) hO (ownGet c32) ?_
        obtain ⟨x33, hx34, h1⟩ := bindE h1
        refine D_callO cmp4_f (cmp4_a ++ [(e_api_Jump (List.getD data0 (Int.toNat m2) default)), (e_api_Jump (List.getD data0 (Int.toNat (IntKind.i64.wrap (Int.fdiv (IntKind.u64.wrap (IntKind.i64.wrap (i14 + j15))) (2 ^ (min (Int.toNat (1 : Int)) 64))))) default))] ++ cmp4_c) (eInt .i64 x33) (by kernel_rfl) (by kernel_rfl) (cmp4_h (List.getD data0 (Int.toNat m2) default) (List.getD data0 (Int.toNat (IntKind.i64.wrap (Int.fdiv (IntKind.u64.wrap (IntKind.i64.wrap (i14 + j15))) (2 ^ (min (Int.toNat (1 : Int)) 64))))) default) _ hx34) hO ?_
        intro H hO
        refine D_al ?_
        refine E_ad [] [(103, (eBool (!(decide (x33 < (0 : Int))))))] ?_
        refine C_cd h1 (fun h1 => ?_) (fun h1 => ?_)
        · refine C_rg ttOk 3 ?_
          refine R_al ?_
          exact E_done (blockA_normal (thenA_normal (⟨rfl, (data0, IntKind.i64.wrap ((IntKind.i64.wrap (Int.fdiv (IntKind.u64.wrap (IntKind.i64.wrap (i14 + j15))) (2 ^ (min (Int.toNat (1 : Int)) 64)))) + (1 : Int)), j15), (Option.some.inj h1).symm, .eq (by kernel_rfl), hO, hN⟩)))
        refine C_rg ttOk 2 ?_
        refine R_al ?_
        exact E_done (blockA_normal (thenA_normal (⟨rfl, (data0, i14, IntKind.i64.wrap (Int.fdiv (IntKind.u64.wrap (IntKind.i64.wrap (i14 + j15))) (2 ^ (min (Int.toNat (1 : Int)) 64)))), (Option.some.inj h1).symm, .eq (by kernel_rfl), hO, hN⟩)))
      refine C_ex 4 ?_
      obtain rfl := Option.some.inj h1
      obtain rfl : _ = rr0 := ho0
      replace h0 : slices_symMergeCmpFunc_api_Jump_j8 cmp4 rec data0 m2 i14 = some r := h0
      exact E_done (thenA_exit (thenA_exit (blockA_hit (thenA_normal (⟨rfl, data0, i14, .eq (by kernel_rfl), hO, hN, h0⟩)))))
    refine C_sk ?_
    exact E_done (thenA_normal (⟨rfl, data0, .eq (by kernel_rfl), hO, hN, h0⟩))
  refine S_al ttOk 4 [] [(28, (eBool (decide ((IntKind.i64.wrap (m2 - a1)) = (1 : Int)))))] ?_
  refine C_cd h0 (fun h0 => ?_) (fun h0 => ?_)
  · refine S_al ttOk 2 [2, 28] [(10, (eInt .i64 m2))] ?_
    refine S_al ttOk 2 [3] [(11, (eInt .i64 b3))] ?_
    refine C_sj (fun T H => ∃ data0 : List api_Jump, ∃ i10 : Int, Has T [(0, (.msl 2 lo0p 0 (List.length data0))), (1, (eInt .i64 a1)), (10, (eInt .i64 i10))] ∧ Owns ⟨H0, [lo0p], []⟩ H [(lo0p, 2, List.map e_api_Jump data0)] ∧ List.length data0 = N0 ∧ slices_symMergeCmpFunc_api_Jump_j12 cmp4 rec data0 a1 i10 = some r) ?_ ?_
    · clear hO hN h0
      rintro T H ⟨data0, i10, hT, hO, hN, h0⟩
      refine C_has hT ?_
      clear hT
      unfold slices_symMergeCmpFunc_api_Jump_j12 at h0
      refine C_sj (fun T H => ∃ data0 : List api_Jump, Has T [(0, (.msl 2 lo0p 0 (List.length data0)))] ∧ Owns ⟨H0, [lo0p], []⟩ H [(lo0p, 2, List.map e_api_Jump data0)] ∧ List.length data0 = N0 ∧ slices_symMergeCmpFunc_api_Jump_j13 cmp4 rec data0 = some r) ?_ ?_
      · clear hO hN h0
        rintro T H ⟨data0, hT, hO, hN, h0⟩
        refine C_has hT ?_
        clear hT
        unfold slices_symMergeCmpFunc_api_Jump_j13 at h0
        refine C_rt ?_
        obtain rfl := Option.some.inj h0
        exact E_done (thenA_ret (Q_ret (x := (.tup [])) (by kernel_rfl) (SubV.refl _) ⟨rfl, hO.ext, hO.at 0 (by kernel_rfl), by simp only [List.length_map]; exact hN.trans hN0⟩))
      refine S_al ttOk 2 [1] [(13, (eInt .i64 a1))] ?_
      refine C_bk 2 ?_
      refine C_hk [(0, (.msl 2 lo0p 0 (List.length data0))), (10, (eInt .i64 i10)), (13, (eInt .i64 a1))] ?_
      refine C_cut (fun T H => ∃ data0 : List api_Jump, ∃ k13 : Int, Has T [(0, (.msl 2 lo0p 0 (List.length data0))), (10, (eInt .i64 i10)), (13, (eInt .i64 k13))] ∧ Owns ⟨H0, [lo0p], []⟩ H [(lo0p, 2, List.map e_api_Jump data0)] ∧ List.length data0 = N0 ∧ slices_symMergeCmpFunc_api_Jump_h14 cmp4 rec data0 i10 k13 = some r) ?_ ⟨data0, a1, .eq (by kernel_rfl), hO, hN, h0⟩
      clear hO hN h0
      rintro T H ⟨data0, k13, hT, hO, hN, h0⟩
      refine C_has hT ?_
      clear hT
      unfold slices_symMergeCmpFunc_api_Jump_h14 at h0
      obtain ⟨rr0, hl0, h0⟩ := bindE h0
      refine C_loopS (by kernel_rfl) (fun (s : List api_Jump × Int) T H => Has T [(0, (.msl 2 lo0p 0 (List.length s.1))), (10, (eInt .i64 i10)), (13, (eInt .i64 s.2))] ∧ Owns ⟨H0, [lo0p], []⟩ H [(lo0p, 2, List.map e_api_Jump s.1)] ∧ List.length s.1 = N0) hl0 ⟨.eq (by kernel_rfl), hO, hN⟩ ?_
      clear hO hN
      rintro k0 s out1 T H ⟨hT, hO, hN⟩ h1 ho0
      obtain ⟨data0, k13⟩ := s
      replace h1 : slices_symMergeCmpFunc_api_Jump_l14 cmp4 rec i10 data0 k13 = some out1 := h1
      dsimp only at hT
      refine C_has hT ?_
      clear hT
      unfold slices_symMergeCmpFunc_api_Jump_l14 at h1
      refine C_sq ?_
      refine S_al ttOk 4 [] [(58, (eBool (decide (k13 < (IntKind.i64.wrap (i10 - (1 : Int)))))))] ?_
      refine C_cd h1 (fun h1 => ?_) (fun h1 => ?_)
      · refine C_sk ?_
        refine E_tn [(0, (.msl 2 lo0p 0 (List.length data0))), (10, (eInt .i64 i10)), (13, (eInt .i64 k13))] ?_
        refine C_sq ?_
        refine C_bk 3 ?_
        refine C_dg (plOf []) ttOk 18 ?_
        obtain ⟨c39, h1⟩ := asrtE h1
        refine D_ps 9 [0 ≤ (IntKind.i64.wrap (k13 + (1 : Int))) ∧ (IntKind.i64.wrap (k13 + (1 : Int))) < ((List.length data0 : Nat) : Int)] ⟨c39, trivial⟩ ?_
        refine D_lO 0 lo0p 2 (0 + Int.toNat (IntKind.i64.wrap (k13 + (1 : Int)))) (e_api_Jump (List.getD data0 (Int.toNat (IntKind.i64.wrap (k13 + (1 : Int)))) default)) (e_api_Jump (List.getD data0 (Int.toNat (IntKind.i64.wrap (k13 + (1 : Int)))) default)) (List.map e_api_Jump data0) hO (ownGet c39) ?_
        obtain ⟨c40, h1⟩ := asrtE h1
        refine D_ps 13 [0 ≤ k13 ∧ k13 < ((List.length data0 : Nat) : Int)] ⟨c40, trivial⟩ ?_
        refine D_lO 0 lo0p 2 (0 + Int.toNat k13) (e_api_Jump (List.getD data0 (Int.toNat k13) default)) (e_api_Jump (List.getD data0 (Int.toNat k13) default)) (List.map e_api_Jump data0) hO (ownGet c40) ?_
        obtain ⟨c41, h1⟩ := asrtE h1
        refine D_ps 15 [0 ≤ k13 ∧ k13 < ((List.length data0 : Nat) : Int)] ⟨c41, trivial⟩ ?_
        refine D_sO 0 lo0p 2 (0 + Int.toNat k13) (e_api_Jump (List.getD data0 (Int.toNat k13) default)) (e_api_Jump (List.getD data0 (Int.toNat (IntKind.i64.wrap (k13 + (1 : Int)))) default)) (List.map e_api_Jump data0) [(lo0p, 2, List.map e_api_Jump (List.set data0 (Int.toNat k13) (List.getD data0 (Int.toNat (IntKind.i64.wrap (k13 + (1 : Int)))) default)))] hO (ownGet c41) (by simp only [List.set, ownSet]) ?_
        intro H hO
        replace hN : List.length (List.set data0 (Int.toNat k13) (List.getD data0 (Int.toNat (IntKind.i64.wrap (k13 + (1 : Int)))) default)) = N0 := by simpa using hN
        obtain ⟨c42, h1⟩ := asrtE h1
        refine D_ps 17 [0 ≤ (IntKind.i64.wrap (k13 + (1 : Int))) ∧ (IntKind.i64.wrap (k13 + (1 : Int))) < ((List.length data0 : Nat) : Int)] ⟨c42, trivial⟩ ?_
        refine D_sO 0 lo0p 2 (0 + Int.toNat (IntKind.i64.wrap (k13 + (1 : Int)))) (e_api_Jump (List.getD (List.set data0 (Int.toNat k13) (List.getD data0 (Int.toNat (IntKind.i64.wrap (k13 + (1 : Int)))) default)) (Int.toNat (IntKind.i64.wrap (k13 + (1 : Int)))) default)) (e_api_Jump (List.getD data0 (Int.toNat k13) default)) (List.map e_api_Jump (List.set data0 (Int.toNat k13) (List.getD data0 (Int.toNat (IntKind.i64.wrap (k13 + (1 : Int)))) default))) [(lo0p, 2, List.map e_api_Jump (List.set (List.set data0 (Int.toNat k13) (List.getD data0 (Int.toNat (IntKind.i64.wrap (k13 + (1 : Int)))) default)) (Int.toNat (IntKind.i64.wrap (k13 + (1 : Int)))) (List.getD data0 (Int.toNat k13) default)))] hO (ownGetN c42 (by simp [])) (by simp only [List.set, ownSet]) ?_
        intro H hO
        replace hN : List.length (List.set (List.set data0 (Int.toNat k13) (List.getD data0 (Int.toNat (IntKind.i64.wrap (k13 + (1 : Int)))) default)) (Int.toNat (IntKind.i64.wrap (k13 + (1 : Int)))) (List.getD data0 (Int.toNat k13) default)) = N0 := by simpa using hN
        refine D_end (by kernel_rfl) ?_
        refine E_has (l := [(0, (.msl 2 lo0p 0 (List.length (List.set (List.set data0 (Int.toNat k13) (List.getD data0 (Int.toNat (IntKind.i64.wrap (k13 + (1 : Int)))) default)) (Int.toNat (IntKind.i64.wrap (k13 + (1 : Int)))) (List.getD data0 (Int.toNat k13) default))))), (10, (eInt .i64 i10)), (13, (eInt .i64 k13))]) ⟨[(0, (.msl 2 lo0p 0 (List.length data0))), (10, (eInt .i64 i10)), (13, (eInt .i64 k13))], by kernel_rfl, rfl, ⟨SubV.eq (by simp []), SubV.refl _, SubV.refl _, trivial⟩⟩ ?_
        refine E_done (blockA_normal (thenA_normal (?_)))
        refine C_rg ttOk 3 ?_
        refine R_al ?_
        exact E_done (thenA_normal (⟨rfl, (List.set (List.set data0 (Int.toNat k13) (List.getD data0 (Int.toNat (IntKind.i64.wrap (k13 + (1 : Int)))) default)) (Int.toNat (IntKind.i64.wrap (k13 + (1 : Int)))) (List.getD data0 (Int.toNat k13) default), IntKind.i64.wrap (k13 + (1 : Int))), (Option.some.inj h1).symm, .eq (by kernel_rfl), hO, hN⟩))
      refine C_ex 2 ?_
      obtain rfl := Option.some.inj h1
      obtain rfl : _ = rr0 := ho0
      replace h0 : slices_symMergeCmpFunc_api_Jump_j13 cmp4 rec data0 = some r := h0
      exact E_done (thenA_exit (thenA_exit (blockA_hit (thenA_normal (⟨rfl, data0, .eq (by kernel_rfl), hO, hN, h0⟩)))))
    refine C_bk 0 ?_
    refine C_hk [(0, (.msl 2 lo0p 0 (List.length data0))), (1, (eInt .i64 a1)), (4, (.fn (.func cmp4_f) cmp4_a cmp4_c)), (10, (eInt .i64 m2)), (11, (eInt .i64 b3))] ?_
    refine C_cut (fun T H => ∃ data0 : List api_Jump, ∃ i10 : Int, ∃ j11 : Int, Has T [(0, (.msl 2 lo0p 0 (List.length data0))), (1, (eInt .i64 a1)), (4, (.fn (.func cmp4_f) cmp4_a cmp4_c)), (10, (eInt .i64 i10)), (11, (eInt .i64 j11))] ∧ Owns ⟨H0, [lo0p], []⟩ H [(lo0p, 2, List.map e_api_Jump data0)] ∧ List.length data0 = N0 ∧ slices_symMergeCmpFunc_api_Jump_h15 cmp4 rec data0 a1 i10 j11 = some r) ?_ ⟨data0, m2, b3, .eq (by kernel_rfl), hO, hN, h0⟩
    clear hO hN h0
    rintro T H ⟨data0, i10, j11, hT, hO, hN, h0⟩
    refine C_has hT ?_
    clear hT
    unfold slices_symMergeCmpFunc_api_Jump_h15 at h0
    obtain ⟨rr0, hl0, h0⟩ := bindE h0
    refine C_loopS (by kernel_rfl) (fun (s : List api_Jump × Int × Int) T H => Has T [(0, (.msl 2 lo0p 0 (List.length s.1))), (1, (eInt .i64 a1)), (4, (.fn (.func cmp4_f) cmp4_a cmp4_c)), (10, (eInt .i64 s.2.1)), (11, (eInt .i64 s.2.2))] ∧ Owns ⟨H0, [lo0p], []⟩ H [(lo0p, 2, List.map e_api_Jump s.1)] ∧ List.length s.1 = N0) hl0 ⟨.eq (by kernel_rfl), hO, hN⟩ ?_
    clear hO hN
    rintro k0 s out1 T H ⟨hT, hO, hN⟩ h1 ho0
    obtain ⟨data0, i10, j11⟩ := s
    replace h1 : slices_symMergeCmpFunc_api_Jump_l15 cmp4 rec a1 data0 i10 j11 = some out1 := h1
    dsimp only at hT
    refine C_has hT ?_
    clear hT
    unfold slices_symMergeCmpFunc_api_Jump_l15 at h1
    refine C_sq ?_
    refine S_al ttOk 3 [] [(33, (eBool (decide (i10 < j11))))] ?_
    refine C_cd h1 (fun h1 => ?_) (fun h1 => ?_)
    · refine C_sk ?_
      refine E_tn [(0, (.msl 2 lo0p 0 (List.length data0))), (1, (eInt .i64 a1)), (4, (.fn (.func cmp4_f) cmp4_a cmp4_c)), (10, (eInt .i64 i10)), (11, (eInt .i64 j11))] ?_
      refine C_bk 1 ?_
      refine C_sq ?_
      refine C_rg ttOk 7 ?_
      obtain ⟨c44, h1⟩ := asrtE h1
      refine R_as [0 ≤ (1 : Int)] ⟨c44, trivial⟩ ?_
      refine E_ad [] [(12, (eInt .i64 (IntKind.i64.wrap (Int.fdiv (IntKind.u64.wrap (IntKind.i64.wrap (i10 + j11))) (2 ^ (min (Int.toNat (1 : Int)) 64))))))] ?_
      refine C_sq ?_
      refine C_dg (plOf []) ttOk 11 ?_
      obtain ⟨c45, h1⟩ := asrtE h1
      refine D_ps 4 [0 ≤ (IntKind.i64.wrap (Int.fdiv (IntKind.u64.wrap (IntKind.i64.wrap (i10 + j11))) (2 ^ (min (Int.toNat (1 : Int)) 64)))) ∧ (IntKind.i64.wrap (Int.fdiv (IntKind.u64.wrap (IntKind.i64.wrap (i10 + j11))) (2 ^ (min (Int.toNat (1 : Int)) 64)))) < ((List.length data0 : Nat) : Int)] ⟨c45, trivial⟩ ?_
      refine D_lO 0 lo0p 2 (0 + Int.toNat (IntKind.i64.wrap (Int.fdiv (IntKind.u64.wrap (IntKind.i64.wrap (i10 + j11))) (2 ^ (min (Int.toNat (1 : Int)) 64))))) (e_api_Jump (List.getD data0 (Int.toNat (IntKind.i64.wrap (Int.fdiv (IntKind.u64.wrap (IntKind.i64.wrap (i10 + j11))) (2 ^ (min (Int.toNat (1 : Int)) 64))))) default)) (e_api_Jump (List.getD data0 (Int.toNat (IntKind.i64.wrap (Int.fdiv (IntKind.u64.wrap (IntKind.i64.wrap (i10 + j11))) (2 ^ (min (Int.toNat (1 : Int)) 64))))) default)) (List.map e_api_Jump data0) hO (ownGet c45) ?_
      obtain ⟨c46, h1⟩ := asrtE h1
      refine D_ps 8 [0 ≤ a1 ∧ a1 < ((List.length data0 : Nat) : Int)] ⟨c46, trivial⟩ ?_
      refine D_lO 0 lo0p 2 (0 + Int.toNat a1) (e_api_Jump (List.getD data0 (Int.toNat a1) default)) (e_api_Jump (List.getD data0 (Int.toNat a1) default)) (List.map e_api_Jump data0) hO (ownGet c46) ?_
      obtain ⟨x47, hx48, h1⟩ := bindE h1
      refine D_callO cmp4_f (cmp4_a ++ [(e_api_Jump (List.getD data0 (Int.toNat (IntKind.i64.wrap (Int.fdiv (IntKind.u64.wrap (IntKind.i64.wrap (i10 + j11))) (2 ^ (min (Int.toNat (1 : Int)) 64))))) default)), (e_api_Jump (List.getD data0 (Int.toNat a1) default))] ++ cmp4_c) (eInt .i64 x47) (by kernel_rfl) (by kernel_rfl) (cmp4_h (List.getD data0 (Int.toNat (IntKind.i64.wrap (Int.fdiv (IntKind.u64.wrap (IntKind.i64.wrap (i10 + j11))) (2 ^ (min (Int.toNat (1 : Int)) 64))))) default) (List.getD data0 (Int.toNat a1) default) _ hx48) hO ?_
      intro H hO
      refine D_al ?_
      refine E_ad [] [(50, (eBool (decide (x47 < (0 : Int)))))] ?_
      refine C_cd h1 (fun h1 => ?_) (fun h1 => ?_)
      · refine C_rg ttOk 3 ?_
        refine R_al ?_
        exact E_done (blockA_normal (thenA_normal (⟨rfl, (data0, IntKind.i64.wrap ((IntKind.i64.wrap (Int.fdiv (IntKind.u64.wrap (IntKind.i64.wrap (i10 + j11))) (2 ^ (min (Int.toNat (1 : Int)) 64)))) + (1 : Int)), j11), (Option.some.inj h1).symm, .eq (by kernel_rfl), hO, hN⟩)))
      refine C_rg ttOk 2 ?_
      refine R_al ?_
      exact E_done (blockA_normal (thenA_normal (⟨rfl, (data0, i10, IntKind.i64.wrap (Int.fdiv (IntKind.u64.wrap (IntKind.i64.wrap (i10 + j11))) (2 ^ (min (Int.toNat (1 : Int)) 64)))), (Option.some.inj h1).symm, .eq (by kernel_rfl), hO, hN⟩)))
    refine C_ex 0 ?_
    obtain rfl := Option.some.inj h1
    obtain rfl : _ = rr0 := ho0
    replace h0 : slices_symMergeCmpFunc_api_Jump_j12 cmp4 rec data0 a1 i10 = some r := h0
    exact E_done (thenA_exit (thenA_exit (blockA_hit (thenA_normal (⟨rfl, data0, i10, .eq (by kernel_rfl), hO, hN, h0⟩)))))
  refine C_sk ?_
  exact E_done (thenA_normal (⟨rfl, data0, .eq (by kernel_rfl), hO, hN, h0⟩))

theorem w_slices_symMergeCmpFunc_api_Jump_at (cmp4_f : Nat) (cmp4_a cmp4_c : List V) (cmp4 : api_Jump → api_Jump → Option Int) (cmp4_h : ∀ a0 a1 r, cmp4 a0 a1 = some r → Fine Try.prog cmp4_f (cmp4_a ++ [(e_api_Jump a0), (e_api_Jump a1)] ++ cmp4_c) (eInt .i64 r)) : ∀ (k : Nat) (lo0p : Nat) (data0 : (List api_Jump)) (a1 : Int) (m2 : Int) (b3 : Int) (r : List api_Jump), slices_symMergeCmpFunc_api_Jump_at cmp4 k data0 a1 m2 b3 = some r → FineI Try.prog 122 lo0p 2 (List.map e_api_Jump data0) (List.map e_api_Jump r) [(.msl 2 lo0p 0 (List.length data0)), (eInt .i64 a1), (eInt .i64 m2), (eInt .i64 b3), (.fn (.func cmp4_f) cmp4_a cmp4_c)] (.tup [])
  | 0, _, _, _, _, _, _, h => by cases h
  | k + 1, lo0p, data0, a1, m2, b3, r, h => w_slices_symMergeCmpFunc_api_Jump_step cmp4_f cmp4_a cmp4_c cmp4 cmp4_h _ (w_slices_symMergeCmpFunc_api_Jump_at cmp4_f cmp4_a cmp4_c cmp4 cmp4_h k) lo0p data0 a1 m2 b3 r h

theorem w_slices_symMergeCmpFunc_api_Jump (lo0p : Nat) (data0 : (List api_Jump)) (a1 : Int) (m2 : Int) (b3 : Int) (cmp4_f : Nat) (cmp4_a cmp4_c : List V) (cmp4 : api_Jump → api_Jump → Option Int) (cmp4_h : ∀ a0 a1 r, cmp4 a0 a1 = some r → Fine Try.prog cmp4_f (cmp4_a ++ [(e_api_Jump a0), (e_api_Jump a1)] ++ cmp4_c) (eInt .i64 r)) (r : List api_Jump) (h0 : s_slices_symMergeCmpFunc_api_Jump data0 a1 m2 b3 cmp4 = some r) : FineI Try.prog 122 lo0p 2 (List.map e_api_Jump data0) (List.map e_api_Jump r) [(.msl 2 lo0p 0 (List.length data0)), (eInt .i64 a1), (eInt .i64 m2), (eInt .i64 b3), (.fn (.func cmp4_f) cmp4_a cmp4_c)] (.tup []) := by
  obtain ⟨k, hk⟩ := fixN_some h0
  exact w_slices_symMergeCmpFunc_api_Jump_at cmp4_f cmp4_a cmp4_c cmp4 cmp4_h k lo0p data0 a1 m2 b3 r hk

theorem w_slices_stableCmpFunc_api_Jump (lo0p : Nat) (data0 : (List api_Jump)) (n1 : Int) (cmp2_f : Nat) (cmp2_a cmp2_c : List V) (cmp2 : api_Jump → api_Jump → Option Int) (cmp2_h : ∀ a0 a1 r, cmp2 a0 a1 = some r → Fine Try.prog cmp2_f (cmp2_a ++ [(e_api_Jump a0), (e_api_Jump a1)] ++ cmp2_c) (eInt .i64 r)) (r : List api_Jump) (h0 : s_slices_stableCmpFunc_api_Jump data0 n1 cmp2 = some r) : FineI Try.prog 117 lo0p 2 (List.map e_api_Jump data0) (List.map e_api_Jump r) [(.msl 2 lo0p 0 (List.length data0)), (eInt .i64 n1), (.fn (.func cmp2_f) cmp2_a cmp2_c)] (.tup []) := by
  intro H0 hl0
  refine F_wk Try.func117 ?_
  have hO := Owns.start1 hl0
  clear hl0
  obtain ⟨N0, hN0⟩ : ∃ n, n = List.length data0 := ⟨_, rfl⟩
  have hN : List.length data0 = N0 := hN0.symm
  unfold s_slices_stableCmpFunc_api_Jump at h0
  refine S_al ttOk 1 [] [(6, (eInt .i64 (20 : Int)))] ?_
  refine S_al ttOk 3 [] [(7, (eInt .i64 (0 : Int))), (8, (eInt .i64 (20 : Int)))] ?_
  refine C_sj (fun T H => ∃ data0 : List api_Jump, ∃ blockSize6 : Int, ∃ a7 : Int, Has T [(0, (.msl 2 lo0p 0 (List.length data0))), (1, (eInt .i64 n1)), (2, (.fn (.func cmp2_f) cmp2_a cmp2_c)), (6, (eInt .i64 blockSize6)), (7, (eInt .i64 a7))] ∧ Owns ⟨H0, [lo0p], []⟩ H [(lo0p, 2, List.map e_api_Jump data0)] ∧ List.length data0 = N0 ∧ slices_stableCmpFunc_api_Jump_j1 cmp2 data0 n1 blockSize6 a7 = some r) ?_ ?_
  · clear hO hN h0
    rintro T H ⟨data0, blockSize6, a7, hT, hO, hN, h0⟩
    refine C_has hT ?_
    clear hT
    unfold slices_stableCmpFunc_api_Jump_j1 at h0
    refine C_sq ?_
    refine C_rg ttOk 5 ?_
    refine R_pu 4 ?_
    obtain ⟨x1, hx2, h0⟩ := bindE h0
    refine R_callI (L' := [(lo0p, 2, List.map e_api_Jump x1)]) 0 lo0p 2 (List.map e_api_Jump data0) (List.map e_api_Jump x1) 121 [(.msl 2 lo0p 0 (List.length data0)), (eInt .i64 a7), (eInt .i64 n1), (.fn (.func cmp2_f) cmp2_a cmp2_c)] (.tup []) (by kernel_rfl) (by kernel_rfl) (w_slices_insertionSortCmpFunc_api_Jump lo0p data0 a7 n1 cmp2_f cmp2_a cmp2_c cmp2 cmp2_h _ hx2) hO (by kernel_rfl) (by kernel_rfl) ?_
    intro H hO hl3
    simp only [List.length_map] at hl3
    replace hN := hl3.trans hN
    refine R_en ?_
    refine E_has (l := [(0, (.msl 2 lo0p 0 (List.length x1))), (1, (eInt .i64 n1)), (2, (.fn (.func cmp2_f) cmp2_a cmp2_c)), (6, (eInt .i64 blockSize6))]) ⟨[(0, (.msl 2 lo0p 0 (List.length data0))), (1, (eInt .i64 n1)), (2, (.fn (.func cmp2_f) cmp2_a cmp2_c)), (6, (eInt .i64 blockSize6))], by kernel_rfl, rfl, ⟨SubV.eq (by simp [hl3]), SubV.refl _, SubV.refl _, SubV.refl _, trivial⟩⟩ ?_
    refine E_done (thenA_normal (?_))
    refine C_bk 2 ?_
    refine C_hk [(0, (.msl 2 lo0p 0 (List.length x1))), (1, (eInt .i64 n1)), (2, (.fn (.func cmp2_f) cmp2_a cmp2_c)), (6, (eInt .i64 blockSize6))] ?_
    refine C_cut (fun T H => ∃ data0 : List api_Jump, ∃ blockSize6 : Int, Has T [(0, (.msl 2 lo0p 0 (List.length data0))), (1, (eInt .i64 n1)), (2, (.fn (.func cmp2_f) cmp2_a cmp2_c)), (6, (eInt .i64 blockSize6))] ∧ Owns ⟨H0, [lo0p], []⟩ H [(lo0p, 2, List.map e_api_Jump data0)] ∧ List.length data0 = N0 ∧ slices_stableCmpFunc_api_Jump_h2 cmp2 data0 n1 blockSize6 = some r) ?_ ⟨x1, blockSize6, .eq (by kernel_rfl), hO, hN, h0⟩
    clear hO hN h0
    rintro T H ⟨data0, blockSize6, hT, hO, hN, h0⟩
    refine C_has hT ?_
    clear hT
    unfold slices_stableCmpFunc_api_Jump_h2 at h0
    obtain ⟨rr0, hl0, h0⟩ := bindE h0
    refine C_loopS (by kernel_rfl) (fun (s : List api_Jump × Int) T H => Has T [(0, (.msl 2 lo0p 0 (List.length s.1))), (1, (eInt .i64 n1)), (2, (.fn (.func cmp2_f) cmp2_a cmp2_c)), (6, (eInt .i64 s.2))] ∧ Owns ⟨H0, [lo0p], []⟩ H [(lo0p, 2, List.map e_api_Jump s.1)] ∧ List.length s.1 = N0) hl0 ⟨.eq (by kernel_rfl), hO, hN⟩ ?_
    clear hO hN
    rintro k0 s out1 T H ⟨hT, hO, hN⟩ h1 ho0
    obtain ⟨data0, blockSize6⟩ := s
    replace h1 : slices_stableCmpFunc_api_Jump_l2 cmp2 n1 data0 blockSize6 = some out1 := h1
    dsimp only at hT
    refine C_has hT ?_
    clear hT
    unfold slices_stableCmpFunc_api_Jump_l2 at h1
    refine C_sq ?_
    refine S_al ttOk 3 [] [(30, (eBool (decide (blockSize6 < n1))))] ?_
    refine C_cd h1 (fun h1 => ?_) (fun h1 => ?_)
    · refine C_sk ?_
      refine E_tn [(0, (.msl 2 lo0p 0 (List.length data0))), (1, (eInt .i64 n1)), (2, (.fn (.func cmp2_f) cmp2_a cmp2_c)), (6, (eInt .i64 blockSize6))] ?_
      refine C_bk 3 ?_
      refine S_al ttOk 4 [] [(7, (eInt .i64 (0 : Int))), (8, (eInt .i64 (IntKind.i64.wrap ((2 : Int) * blockSize6))))] ?_
      refine C_sj (fun T H => ∃ data0 : List api_Jump, ∃ a7 : Int, Has T [(0, (.msl 2 lo0p 0 (List.length data0))), (1, (eInt .i64 n1)), (2, (.fn (.func cmp2_f) cmp2_a cmp2_c)), (6, (eInt .i64 blockSize6)), (7, (eInt .i64 a7))] ∧ Owns ⟨H0, [lo0p], []⟩ H [(lo0p, 2, List.map e_api_Jump data0)] ∧ List.length data0 = N0 ∧ slices_stableCmpFunc_api_Jump_j3 cmp2 data0 n1 blockSize6 a7 = some out1) ?_ ?_
      · clear hO hN h1
        rintro T H ⟨data0, a7, hT, hO, hN, h1⟩
        refine C_has hT ?_
        clear hT
        unfold slices_stableCmpFunc_api_Jump_j3 at h1
        refine C_sj (fun T H => ∃ data0 : List api_Jump, Has T [(0, (.msl 2 lo0p 0 (List.length data0))), (1, (eInt .i64 n1)), (2, (.fn (.func cmp2_f) cmp2_a cmp2_c)), (6, (eInt .i64 blockSize6))] ∧ Owns ⟨H0, [lo0p], []⟩ H [(lo0p, 2, List.map e_api_Jump data0)] ∧ List.length data0 = N0 ∧ slices_stableCmpFunc_api_Jump_j4 cmp2 data0 n1 blockSize6 = some out1) ?_ ?_
        · clear hO hN h1
          rintro T H ⟨data0, hT, hO, hN, h1⟩
          refine C_has hT ?_
          clear hT
          unfold slices_stableCmpFunc_api_Jump_j4 at h1
          refine C_rg ttOk 3 ?_
          refine R_al ?_
          exact E_done (blockA_normal (thenA_normal (⟨rfl, (data0, IntKind.i64.wrap (blockSize6 * (2 : Int))), (Option.some.inj h1).symm, .eq (by kernel_rfl), hO, hN⟩)))
        refine S_al ttOk 4 [] [(9, (eInt .i64 (IntKind.i64.wrap (a7 + blockSize6))))] ?_
        refine S_al ttOk 3 [] [(54, (eBool (decide ((IntKind.i64.wrap (a7 + blockSize6)) < n1))))] ?_
        refine C_cd h1 (fun h1 => ?_) (fun h1 => ?_)
        · refine C_rg ttOk 6 ?_
          refine R_pu 5 ?_
          obtain ⟨x6, hx7, h1⟩ := bindE h1
          refine R_callI (L' := [(lo0p, 2, List.map e_api_Jump x6)]) 0 lo0p 2 (List.map e_api_Jump data0) (List.map e_api_Jump x6) 122 [(.msl 2 lo0p 0 (List.length data0)), (eInt .i64 a7), (eInt .i64 (IntKind.i64.wrap (a7 + blockSize6))), (eInt .i64 n1), (.fn (.func cmp2_f) cmp2_a cmp2_c)] (.tup []) (by kernel_rfl) (by kernel_rfl) (w_slices_symMergeCmpFunc_api_Jump lo0p data0 a7 (IntKind.i64.wrap (a7 + blockSize6)) n1 cmp2_f cmp2_a cmp2_c cmp2 cmp2_h _ hx7) hO (by kernel_rfl) (by kernel_rfl) ?_
          intro H hO hl8
          simp only [List.length_map] at hl8
          replace hN := hl8.trans hN
          refine R_en ?_
          refine E_has (l := [(0, (.msl 2 lo0p 0 (List.length x6))), (1, (eInt .i64 n1)), (2, (.fn (.func cmp2_f) cmp2_a cmp2_c)), (6, (eInt .i64 blockSize6))]) ⟨[(0, (.msl 2 lo0p 0 (List.length data0))), (1, (eInt .i64 n1)), (2, (.fn (.func cmp2_f) cmp2_a cmp2_c)), (6, (eInt .i64 blockSize6))], by kernel_rfl, rfl, ⟨SubV.eq (by simp [hl8]), SubV.refl _, SubV.refl _, SubV.refl _, trivial⟩⟩ ?_
          exact E_done (thenA_normal (⟨rfl, x6, .eq (by kernel_rfl), hO, hN, h1⟩))
        refine C_sk ?_
        exact E_done (thenA_normal (⟨rfl, data0, .eq (by kernel_rfl), hO, hN, h1⟩))
      refine C_bk 4 ?_
      refine C_hk [(0, (.msl 2 lo0p 0 (List.length data0))), (1, (eInt .i64 n1)), (2, (.fn (.func cmp2_f) cmp2_a cmp2_c)), (6, (eInt .i64 blockSize6)), (7, (eInt .i64 (0 : Int))), (8, (eInt .i64 (IntKind.i64.wrap ((2 : Int) * blockSize6))))] ?_
      refine C_cut (fun T H => ∃ data0 : List api_Jump, ∃ a7 : Int, ∃ b8 : Int, Has T [(0, (.msl 2 lo0p 0 (List.length data0))), (1, (eInt .i64 n1)), (2, (.fn (.func cmp2_f) cmp2_a cmp2_c)), (6, (eInt .i64 blockSize6)), (7, (eInt .i64 a7)), (8, (eInt .i64 b8))] ∧ Owns ⟨H0, [lo0p], []⟩ H [(lo0p, 2, List.map e_api_Jump data0)] ∧ List.length data0 = N0 ∧ slices_stableCmpFunc_api_Jump_h5 cmp2 data0 n1 blockSize6 a7 b8 = some out1) ?_ ⟨data0, (0 : Int), IntKind.i64.wrap ((2 : Int) * blockSize6), .eq (by kernel_rfl), hO, hN, h1⟩
      clear hO hN h1
      rintro T H ⟨data0, a7, b8, hT, hO, hN, h1⟩
      refine C_has hT ?_
      clear hT
      unfold slices_stableCmpFunc_api_Jump_h5 at h1
      obtain ⟨rr1, hl1, h1⟩ := bindE h1
      refine C_loopS (by kernel_rfl) (fun (s : List api_Jump × Int × Int) T H => Has T [(0, (.msl 2 lo0p 0 (List.length s.1))), (1, (eInt .i64 n1)), (2, (.fn (.func cmp2_f) cmp2_a cmp2_c)), (6, (eInt .i64 blockSize6)), (7, (eInt .i64 s.2.1)), (8, (eInt .i64 s.2.2))] ∧ Owns ⟨H0, [lo0p], []⟩ H [(lo0p, 2, List.map e_api_Jump s.1)] ∧ List.length s.1 = N0) hl1 ⟨.eq (by kernel_rfl), hO, hN⟩ ?_
      clear hO hN
      rintro k1 s out2 T H ⟨hT, hO, hN⟩ h2 ho1
      obtain ⟨data0, a7, b8⟩ := s
      replace h2 : slices_stableCmpFunc_api_Jump_l5 cmp2 n1 blockSize6 data0 a7 b8 = some out2 := h2
      dsimp only at hT
      refine C_has hT ?_
      clear hT
      unfold slices_stableCmpFunc_api_Jump_l5 at h2
      refine C_sq ?_
      refine S_al ttOk 3 [] [(35, (eBool (decide (b8 ≤ n1))))] ?_
      refine C_cd h2 (fun h2 => ?_) (fun h2 => ?_)
      · refine C_sk ?_
        refine E_tn [(0, (.msl 2 lo0p 0 (List.length data0))), (1, (eInt .i64 n1)), (2, (.fn (.func cmp2_f) cmp2_a cmp2_c)), (6, (eInt .i64 blockSize6)), (7, (eInt .i64 a7)), (8, (eInt .i64 b8))] ?_
        refine C_bk 5 ?_
        refine C_sq ?_
        refine C_rg ttOk 8 ?_
        refine R_pu 7 ?_
        obtain ⟨x10, hx11, h2⟩ := bindE h2
        refine R_callI (L' := [(lo0p, 2, List.map e_api_Jump x10)]) 0 lo0p 2 (List.map e_api_Jump data0) (List.map e_api_Jump x10) 122 [(.msl 2 lo0p 0 (List.length data0)), (eInt .i64 a7), (eInt .i64 (IntKind.i64.wrap (a7 + blockSize6))), (eInt .i64 b8), (.fn (.func cmp2_f) cmp2_a cmp2_c)] (.tup []) (by kernel_rfl) (by kernel_rfl) (w_slices_symMergeCmpFunc_api_Jump lo0p data0 a7 (IntKind.i64.wrap (a7 + blockSize6)) b8 cmp2_f cmp2_a cmp2_c cmp2 cmp2_h _ hx11) hO (by kernel_rfl) (by kernel_rfl) ?_
        intro H hO hl12
        simp only [List.length_map] at hl12
        replace hN := hl12.trans hN
        refine R_en ?_
        refine E_has (l := [(0, (.msl 2 lo0p 0 (List.length x10))), (1, (eInt .i64 n1)), (2, (.fn (.func cmp2_f) cmp2_a cmp2_c)), (6, (eInt .i64 blockSize6)), (8, (eInt .i64 b8))]) ⟨[(0, (.msl 2 lo0p 0 (List.length data0))), (1, (eInt .i64 n1)), (2, (.fn (.func cmp2_f) cmp2_a cmp2_c)), (6, (eInt .i64 blockSize6)), (8, (eInt .i64 b8))], by kernel_rfl, rfl, ⟨SubV.eq (by simp [hl12]), SubV.refl _, SubV.refl _, SubV.refl _, SubV.refl _, trivial⟩⟩ ?_
        refine E_done (thenA_normal (?_))
        refine S_al ttOk 2 [] [(7, (eInt .i64 b8))] ?_
        refine C_rg ttOk 5 ?_
        refine R_al ?_
        exact E_done (blockA_normal (thenA_normal (⟨rfl, (x10, b8, IntKind.i64.wrap (b8 + (IntKind.i64.wrap ((2 : Int) * blockSize6)))), (Option.some.inj h2).symm, .eq (by kernel_rfl), hO, hN⟩)))
      refine C_ex 4 ?_
      obtain rfl := Option.some.inj h2
      obtain rfl : _ = rr1 := ho1
      replace h1 : slices_stableCmpFunc_api_Jump_j3 cmp2 data0 n1 blockSize6 a7 = some out1 := h1
      exact E_done (thenA_exit (thenA_exit (blockA_hit (thenA_normal (⟨rfl, data0, a7, .eq (by kernel_rfl), hO, hN, h1⟩)))))
    refine C_ex 2 ?_
    obtain rfl := Option.some.inj h1
    obtain rfl : _ = rr0 := ho0
    replace h0 : some data0 = some r := h0
    obtain rfl := Option.some.inj h0
    exact E_done (thenA_exit (thenA_exit (blockA_hit (Q_end (x := (.tup [])) (by kernel_rfl) (SubV.refl _) ⟨rfl, hO.ext, hO.at 0 (by kernel_rfl), by simp only [List.length_map]; exact hN.trans hN0⟩))))
  refine C_bk 0 ?_
  refine C_hk [(0, (.msl 2 lo0p 0 (List.length data0))), (1, (eInt .i64 n1)), (2, (.fn (.func cmp2_f) cmp2_a cmp2_c)), (6, (eInt .i64 (20 : Int))), (7, (eInt .i64 (0 : Int))), (8, (eInt .i64 (20 : Int)))] ?_
  refine C_cut (fun T H => ∃ data0 : List api_Jump, ∃ blockSize6 : Int, ∃ a7 : Int, ∃ b8 : Int, Has T [(0, (.msl 2 lo0p 0 (List.length data0))), (1, (eInt .i64 n1)), (2, (.fn (.func cmp2_f) cmp2_a cmp2_c)), (6, (eInt .i64 blockSize6)), (7, (eInt .i64 a7)), (8, (eInt .i64 b8))] ∧ Owns ⟨H0, [lo0p], []⟩ H [(lo0p, 2, List.map e_api_Jump data0)] ∧ List.length data0 = N0 ∧ slices_stableCmpFunc_api_Jump_h6 cmp2 data0 n1 blockSize6 a7 b8 = some r) ?_ ⟨data0, (20 : Int), (0 : Int), (20 : Int), .eq (by kernel_rfl), hO, hN, h0⟩
  clear hO hN h0
  rintro T H ⟨data0, blockSize6, a7, b8, hT, hO, hN, h0⟩
  refine C_has hT ?_
  clear hT
  unfold slices_stableCmpFunc_api_Jump_h6 at h0
  obtain ⟨rr0, hl0, h0⟩ := bindE h0
  refine C_loopS (by kernel_rfl) (fun (s : List api_Jump × Int × Int) T H => Has T [(0, (.msl 2 lo0p 0 (List.length s.1))), (1, (eInt .i64 n1)), (2, (.fn (.func cmp2_f) cmp2_a cmp2_c)), (6, (eInt .i64 blockSize6)), (7, (eInt .i64 s.2.1)), (8, (eInt .i64 s.2.2))] ∧ Owns ⟨H0, [lo0p], []⟩ H [(lo0p, 2, List.map e_api_Jump s.1)] ∧ List.length s.1 = N0) hl0 ⟨.eq (by kernel_rfl), hO, hN⟩ ?_
  clear hO hN
  rintro k0 s out1 T H ⟨hT, hO, hN⟩ h1 ho0
  obtain ⟨data0, a7, b8⟩ := s
  replace h1 : slices_stableCmpFunc_api_Jump_l6 cmp2 n1 blockSize6 data0 a7 b8 = some out1 := h1
  dsimp only at hT
  refine C_has hT ?_
  clear hT
  unfold slices_stableCmpFunc_api_Jump_l6 at h1
  refine C_sq ?_
  refine S_al ttOk 3 [] [(13, (eBool (decide (b8 ≤ n1))))] ?_
  refine C_cd h1 (fun h1 => ?_) (fun h1 => ?_)
  · refine C_sk ?_
    refine E_tn [(0, (.msl 2 lo0p 0 (List.length data0))), (1, (eInt .i64 n1)), (2, (.fn (.func cmp2_f) cmp2_a cmp2_c)), (6, (eInt .i64 blockSize6)), (7, (eInt .i64 a7)), (8, (eInt .i64 b8))] ?_
    refine C_bk 1 ?_
    refine C_sq ?_
    refine C_rg ttOk 5 ?_
    refine R_pu 4 ?_
    obtain ⟨x14, hx15, h1⟩ := bindE h1
    refine R_callI (L' := [(lo0p, 2, List.map e_api_Jump x14)]) 0 lo0p 2 (List.map e_api_Jump data0) (List.map e_api_Jump x14) 121 [(.msl 2 lo0p 0 (List.length data0)), (eInt .i64 a7), (eInt .i64 b8), (.fn (.func cmp2_f) cmp2_a cmp2_c)] (.tup []) (by kernel_rfl) (by kernel_rfl) (w_slices_insertionSortCmpFunc_api_Jump lo0p data0 a7 b8 cmp2_f cmp2_a cmp2_c cmp2 cmp2_h _ hx15) hO (by kernel_rfl) (by kernel_rfl) ?_
    intro H hO hl16
    simp only [List.length_map] at hl16
    replace hN := hl16.trans hN
    refine R_en ?_
    refine E_has (l := [(0, (.msl 2 lo0p 0 (List.length x14))), (1, (eInt .i64 n1)), (2, (.fn (.func cmp2_f) cmp2_a cmp2_c)), (6, (eInt .i64 blockSize6)), (8, (eInt .i64 b8))]) ⟨[(0, (.msl 2 lo0p 0 (List.length data0))), (1, (eInt .i64 n1)), (2, (.fn (.func cmp2_f) cmp2_a cmp2_c)), (6, (eInt .i64 blockSize6)), (8, (eInt .i64 b8))], by kernel_rfl, rfl, ⟨SubV.eq (by simp [hl16]), SubV.refl _, SubV.refl _, SubV.refl _, SubV.refl _, trivial⟩⟩ ?_
    refine E_done (thenA_normal (?_))
    refine S_al ttOk 2 [] [(7, (eInt .i64 b8))] ?_
    refine C_rg ttOk 4 ?_
    refine R_al ?_
    exact E_done (blockA_normal (thenA_normal (⟨rfl, (x14, b8, IntKind.i64.wrap (b8 + blockSize6)), (Option.some.inj h1).symm, .eq (by kernel_rfl), hO, hN⟩)))
  refine C_ex 0 ?_
  obtain rfl := Option.some.inj h1
  obtain rfl : _ = rr0 := ho0
  replace h0 : slices_stableCmpFunc_api_Jump_j1 cmp2 data0 n1 blockSize6 a7 = some r := h0
  exact E_done (thenA_exit (thenA_exit (blockA_hit (thenA_normal (⟨rfl, data0, blockSize6, a7, .eq (by kernel_rfl), hO, hN, h0⟩)))))

theorem w_slices_SortStableFunc_api_Jump_api_Jump (lo0p : Nat) (x0 : (List api_Jump)) (cmp1_f : Nat) (cmp1_a cmp1_c : List V) (cmp1 : api_Jump → api_Jump → Option Int) (cmp1_h : ∀ a0 a1 r, cmp1 a0 a1 = some r → Fine Try.prog cmp1_f (cmp1_a ++ [(e_api_Jump a0), (e_api_Jump a1)] ++ cmp1_c) (eInt .i64 r)) (r : List api_Jump) (h0 : s_slices_SortStableFunc_api_Jump_api_Jump x0 cmp1 = some r) : FineI Try.prog 100 lo0p 2 (List.map e_api_Jump x0) (List.map e_api_Jump r) [(.msl 2 lo0p 0 (List.length x0)), (.fn (.func cmp1_f) cmp1_a cmp1_c)] (.tup []) := by
  intro H0 hl0
  refine F_wk Try.func100 ?_
  have hO := Owns.start1 hl0
  clear hl0
  obtain ⟨N0, hN0⟩ : ∃ n, n = List.length x0 := ⟨_, rfl⟩
  have hN : List.length x0 = N0 := hN0.symm
  unfold s_slices_SortStableFunc_api_Jump_api_Jump at h0
  refine C_rg ttOk 5 ?_
  refine R_pu 4 ?_
  obtain ⟨x1, hx2, h0⟩ := bindE h0
  refine R_callI (L' := [(lo0p, 2, List.map e_api_Jump x1)]) 0 lo0p 2 (List.map e_api_Jump x0) (List.map e_api_Jump x1) 117 [(.msl 2 lo0p 0 (List.length x0)), (eInt .i64 ((List.length x0 : Nat) : Int)), (.fn (.func cmp1_f) cmp1_a cmp1_c)] (.tup []) (by kernel_rfl) (by kernel_rfl) (w_slices_stableCmpFunc_api_Jump lo0p x0 ((List.length x0 : Nat) : Int) cmp1_f cmp1_a cmp1_c cmp1 cmp1_h _ hx2) hO (by kernel_rfl) (by kernel_rfl) ?_
  intro H hO hl3
  simp only [List.length_map] at hl3
  replace hN := hl3.trans hN
  refine R_en ?_
  refine E_has (l := [(0, (.msl 2 lo0p 0 (List.length x1)))]) ⟨[(0, (.msl 2 lo0p 0 (List.length x0)))], by kernel_rfl, rfl, ⟨SubV.eq (by simp [hl3]), trivial⟩⟩ ?_
  obtain rfl := Option.some.inj h0
  exact E_done (Q_end (x := (.tup [])) (by kernel_rfl) (SubV.refl _) ⟨rfl, hO.ext, hO.at 0 (by kernel_rfl), by simp only [List.length_map]; exact hN.trans hN0⟩)

theorem w_step_Norm_3 (a0 : api_Jump) (b1 : api_Jump) (r : Int) (h0 : s_step_Norm_3 a0 b1 = some r) : Fine Try.prog 101 [(e_api_Jump a0), (e_api_Jump b1)] (eInt .i64 r) := by
  intro H0
  refine F_wk Try.func101 ?_
  have hO := Owns.start H0
  unfold s_step_Norm_3 at h0
  refine C_sq ?_
  refine C_rg ttOk 3 ?_
  refine R_boxF 2 (e_api_Jump a0) (by kernel_rfl) (by kernel_rfl) ?_
  refine R_boxF 2 (e_api_Jump b1) (by kernel_rfl) (by kernel_rfl) ?_
  refine R_al ?_
  refine E_tn [(2, (.rp (e_api_Jump a0))), (3, (.rp (e_api_Jump b1)))] ?_
  refine C_sq ?_
  refine C_rg ttOk 6 ?_
  refine R_pu 4 ?_
  obtain ⟨x1, hx2, h0⟩ := bindE h0
  refine R_cO 62 [(eInt .i64 a0.At), (eInt .i64 b1.At)] (eInt .i64 x1) (w_cmp_Compare_int a0.At b1.At _ hx2) hO ?_
  intro H hO
  refine R_al ?_
  refine E_tn [(4, (eInt .i64 x1))] ?_
  refine C_rt ?_
  obtain rfl := Option.some.inj h0
  exact E_done (Q_ret (x := (eInt .i64 x1)) (by kernel_rfl) (SubV.refl _) ⟨rfl, hO.out⟩)

theorem w_step_told (f0 : (List api_Jump)) (r : ((List api_Jump) × Int)) (h0 : s_step_told f0 = some r) : Fine Try.prog 102 [(eL e_api_Jump f0)] (.tup [(eL e_api_Jump r.1), (eInt .i64 r.2)]) := by
  intro H0
  refine F_wk Try.func102 ?_
  have hO := Owns.start H0
  unfold s_step_told at h0
  refine S_al ttOk 2 [] [] ?_
  refine C_sq ?_
  refine C_sq ?_
  refine C_rg ttOk 3 ?_
  refine R_pu 1 ?_
  obtain ⟨x1, hx2, h0⟩ := bindE h0
  refine R_cO 51 [(eL e_api_Jump f0)] (eBool x1) (w_step_May f0 _ hx2) hO ?_
  intro H hO
  refine R_al ?_
  refine E_ad [] [(6, (eBool (!x1)))] ?_
  refine C_cd h0 (fun h0 => ?_) (fun h0 => ?_)
  · refine S_tn ttOk 2 [(2, (.sl true 0 (fun _ => .bad))), (3, (eInt .i64 (7 : Int)))] ?_
    refine C_rt ?_
    refine E_has (l := [(2, (eL e_api_Jump ([]))), (3, (eInt .i64 (7 : Int)))]) ⟨[(2, (.sl true 0 (fun _ => .bad))), (3, (eInt .i64 (7 : Int)))], by kernel_rfl, rfl, ⟨subNilL, SubV.refl _, trivial⟩⟩ ?_
    obtain rfl := Option.some.inj h0
    exact E_done (thenA_ret (Q_ret (x := (.tup [(eL e_api_Jump ([])), (eInt .i64 (7 : Int))])) (by kernel_rfl) (SubV.refl _) ⟨rfl, hO.out⟩))
  refine C_sk ?_
  refine E_tn [(0, (eL e_api_Jump f0))] ?_
  refine S_tn ttOk 3 [(2, (eL e_api_Jump f0)), (3, (eInt .i64 (0 : Int)))] ?_
  refine C_rt ?_
  obtain rfl := Option.some.inj h0
  exact E_done (Q_ret (x := (.tup [(eL e_api_Jump f0), (eInt .i64 (0 : Int))])) (by kernel_rfl) (SubV.refl _) ⟨rfl, hO.out⟩)

theorem w_step_Norm (l0 : (List api_Jump)) (r : ((List api_Jump) × Int)) (h0 : s_step_Norm l0 = some r) : Fine Try.prog 65 [(eL e_api_Jump l0)] (.tup [(eL e_api_Jump r.1), (eInt .i64 r.2)]) := by
  intro H0
  refine F_wk Try.func65 ?_
  have hO := Owns.start H0
  unfold s_step_Norm at h0
  refine S_al ttOk 2 [] [] ?_
  refine C_sq ?_
  refine C_sq ?_
  refine C_rg ttOk 2 ?_
  refine R_pu 1 ?_
  obtain ⟨x1, hx2, h0⟩ := bindE h0
  refine R_cO 96 [(eL e_api_Jump l0), (.fn (.func 97) [] [])] (eBool x1) (w_slices_ContainsFunc_api_Jump_api_Jump l0 97 [] [] (fun y0 => s_step_Norm_1 y0) (fun y0 r h => w_step_Norm_1 y0 r h) _ hx2) hO ?_
  intro H hO
  refine R_en ?_
  refine E_ad [] [(9, (eBool x1))] ?_
  refine C_cd h0 (fun h0 => ?_) (fun h0 => ?_)
  · refine S_tn ttOk 2 [(2, (.sl true 0 (fun _ => .bad))), (3, (eInt .i64 (2 : Int)))] ?_
    refine C_rt ?_
    refine E_has (l := [(2, (eL e_api_Jump ([]))), (3, (eInt .i64 (2 : Int)))]) ⟨[(2, (.sl true 0 (fun _ => .bad))), (3, (eInt .i64 (2 : Int)))], by kernel_rfl, rfl, ⟨subNilL, SubV.refl _, trivial⟩⟩ ?_
    obtain rfl := Option.some.inj h0
    exact E_done (thenA_ret (Q_ret (x := (.tup [(eL e_api_Jump ([])), (eInt .i64 (2 : Int))])) (by kernel_rfl) (SubV.refl _) ⟨rfl, hO.out⟩))
  refine C_sk ?_
  refine E_tn [(0, (eL e_api_Jump l0))] ?_
  refine C_sq ?_
  refine C_sq ?_
  refine C_rg ttOk 2 ?_
  refine R_pu 1 ?_
  obtain ⟨x5, hx6, h0⟩ := bindE h0
  refine R_cO 96 [(eL e_api_Jump l0), (.fn (.func 98) [] [])] (eBool x5) (w_slices_ContainsFunc_api_Jump_api_Jump l0 98 [] [] (fun y0 => s_step_Norm_2 y0) (fun y0 r h => w_step_Norm_2 y0 r h) _ hx6) hO ?_
  intro H hO
  refine R_en ?_
  refine E_ad [] [(11, (eBool x5))] ?_
  refine C_cd h0 (fun h0 => ?_) (fun h0 => ?_)
  · refine S_tn ttOk 2 [(2, (.sl true 0 (fun _ => .bad))), (3, (eInt .i64 (13 : Int)))] ?_
    refine C_rt ?_
    refine E_has (l := [(2, (eL e_api_Jump ([]))), (3, (eInt .i64 (13 : Int)))]) ⟨[(2, (.sl true 0 (fun _ => .bad))), (3, (eInt .i64 (13 : Int)))], by kernel_rfl, rfl, ⟨subNilL, SubV.refl _, trivial⟩⟩ ?_
    obtain rfl := Option.some.inj h0
    exact E_done (thenA_ret (Q_ret (x := (.tup [(eL e_api_Jump ([])), (eInt .i64 (13 : Int))])) (by kernel_rfl) (SubV.refl _) ⟨rfl, hO.out⟩))
  refine C_sk ?_
  refine E_tn [(0, (eL e_api_Jump l0))] ?_
  refine C_sq ?_
  refine C_rg ttOk 3 ?_
  refine R_pu 1 ?_
  obtain ⟨x9, hx10, h0⟩ := bindE h0
  refine R_callP (L' := fun lo11 => [(lo11, 2, List.map e_api_Jump x9)]) 2 (List.map e_api_Jump x9) 99 [(eL e_api_Jump l0)] (fun lo11 => (.msl 2 lo11 0 (List.length x9))) (by kernel_rfl) (by kernel_rfl) (w_slices_Clone_api_Jump_api_Jump l0 _ hx10) hO (fun _ => by kernel_rfl) ?_
  intro lo11 H hO
  refine R_al ?_
  refine E_tn [(4, (.msl 2 lo11 0 (List.length x9)))] ?_
  refine C_sq ?_
  refine C_rg ttOk 2 ?_
  refine R_pu 1 ?_
  obtain ⟨x12, hx13, h0⟩ := bindE h0
  refine R_callI (L' := [(lo11, 2, List.map e_api_Jump x12)]) 0 lo11 2 (List.map e_api_Jump x9) (List.map e_api_Jump x12) 100 [(.msl 2 lo11 0 (List.length x9)), (.fn (.func 101) [] [])] (.tup []) (by kernel_rfl) (by kernel_rfl) (w_slices_SortStableFunc_api_Jump_api_Jump lo11 x9 101 [] [] (fun y0 y1 => s_step_Norm_3 y0 y1) (fun y0 y1 r h => w_step_Norm_3 y0 y1 r h) _ hx13) hO (by kernel_rfl) (by kernel_rfl) ?_
  intro H hO hl14
  simp only [List.length_map] at hl14
  refine R_en ?_
  refine E_has (l := [(4, (.msl 2 lo11 0 (List.length x12)))]) ⟨[(4, (.msl 2 lo11 0 (List.length x9)))], by kernel_rfl, rfl, ⟨SubV.eq (by simp [hl14]), trivial⟩⟩ ?_
  refine E_done (thenA_normal (?_))
  refine C_sq ?_
  refine C_rg ttOk 2 ?_
  refine R_bsl (xs := []) (k := 2) (by kernel_rfl) (by kernel_rfl) ?_
  refine R_al ?_
  refine E_ad [] [(5, (.sl true 0 (fun _ => .bad)))] ?_
  refine C_sj (fun T H => ∃ out5 : List api_Jump, ∃ lo15 : Nat, Has T [(5, (.msl 2 lo15 0 (List.length out5)))] ∧ Owns ⟨H0, [], []⟩ H [(lo15, 2, List.map e_api_Jump out5)] ∧ step_Norm_j1 out5 = some r) ?_ ?_
  · clear hO h0
    rintro T H ⟨out5, lo15, hT, hO, h0⟩
    refine C_has hT ?_
    clear hT
    unfold step_Norm_j1 at h0
    refine C_sq ?_
    refine C_rg ttOk 6 ?_
    refine R_freezeO (e := e_api_Jump) out5 0 5 2 lo15 (List.length out5) [] (by kernel_rfl) hO (by kernel_rfl) (by kernel_rfl) (by kernel_rfl) (by kernel_rfl) ?_
    intro H hO
    refine R_pu 1 ?_
    obtain ⟨x16, hx17, h0⟩ := bindE h0
    refine R_cO 102 [(eL e_api_Jump out5)] (.tup [(eL e_api_Jump x16.1), (eInt .i64 x16.2)]) (w_step_told out5 _ hx17) hO ?_
    intro H hO
    refine R_al ?_
    refine E_tn [(2, (eL e_api_Jump x16.1)), (3, (eInt .i64 x16.2))] ?_
    refine C_rt ?_
    obtain rfl := Option.some.inj h0
    exact E_done (Q_ret (x := (.tup [(eL e_api_Jump x16.1), (eInt .i64 x16.2)])) (by kernel_rfl) (SubV.refl _) ⟨rfl, hO.out⟩)
  refine S_al ttOk 1 [] [(6, (eInt .i64 (0 : Int)))] ?_
  refine C_bk 0 ?_
  refine C_hk [(4, (.msl 2 lo11 0 (List.length x12))), (5, (.sl true 0 (fun _ => .bad))), (6, (eInt .i64 (0 : Int)))] ?_
  refine C_ownO (el := (fun _ => .bad)) 1 5 2 hO (by kernel_rfl) ?_
  intro lo43 H44 hO
  refine C_cut (fun T H => ∃ all4 : List api_Jump, ∃ out5 : List api_Jump, ∃ i6 : Int, ∃ lo21 : Nat, ∃ lo22 : Nat, Has T [(4, (.msl 2 lo21 0 (List.length all4))), (5, (.msl 2 lo22 0 (List.length out5))), (6, (eInt .i64 i6))] ∧ Owns ⟨H0, [], []⟩ H [(lo21, 2, List.map e_api_Jump all4), (lo22, 2, List.map e_api_Jump out5)] ∧ step_Norm_h2 all4 out5 i6 = some r) ?_ ⟨x12, ([] : List api_Jump), (0 : Int), lo11, lo43, .eq (by kernel_rfl), hO, h0⟩
  clear hO h0
  rintro T H ⟨all4, out5, i6, lo21, lo22, hT, hO, h0⟩
  refine C_has hT ?_
  clear hT
  unfold step_Norm_h2 at h0
  obtain ⟨rr0, hl0, h0⟩ := bindE h0
  refine C_loopS (by kernel_rfl) (fun (s : List api_Jump × List api_Jump × Int) T H => ∃ lo21 : Nat, ∃ lo22 : Nat, Has T [(4, (.msl 2 lo21 0 (List.length s.1))), (5, (.msl 2 lo22 0 (List.length s.2.1))), (6, (eInt .i64 s.2.2))] ∧ Owns ⟨H0, [], []⟩ H [(lo21, 2, List.map e_api_Jump s.1), (lo22, 2, List.map e_api_Jump s.2.1)]) hl0 ⟨lo21, lo22, .eq (by kernel_rfl), hO⟩ ?_
  clear hO
  rintro k0 s out1 T H ⟨lo21, lo22, hT, hO⟩ h1 ho0
  obtain ⟨all4, out5, i6⟩ := s
  replace h1 : step_Norm_l2 all4 out5 i6 = some out1 := h1
  dsimp only at hT
  refine C_has hT ?_
  clear hT
  unfold step_Norm_l2 at h1
  refine C_sq ?_
  refine S_al ttOk 4 [] [(20, (eBool (decide (i6 < ((List.length all4 : Nat) : Int)))))] ?_
  refine C_cd h1 (fun h1 => ?_) (fun h1 => ?_)
  · refine C_sk ?_
    refine E_tn [(4, (.msl 2 lo21 0 (List.length all4))), (5, (.msl 2 lo22 0 (List.length out5))), (6, (eInt .i64 i6))] ?_
    refine C_bk 1 ?_
    refine C_sq ?_
    refine C_rg ttOk 8 ?_
    obtain ⟨c24, h1⟩ := asrtE h1
    refine R_ps 4 [0 ≤ i6 ∧ i6 < ((List.length all4 : Nat) : Int)] ⟨c24, trivial⟩ ?_
    refine R_lO 0 lo21 2 (0 + Int.toNat i6) (e_api_Jump (List.getD all4 (Int.toNat i6) default)) (eInt .i64 ((List.getD all4 (Int.toNat i6) default).At)) (List.map e_api_Jump all4) hO (ownGet c24) ?_
    refine R_pu 6 ?_
    refine R_allocO 2 (e_api_Jump (api_Jump.mk 0 0)) (by kernel_rfl) (by kernel_rfl) hO ?_
    intro lo25 H hO
    refine R_sO 2 lo25 2 0 (e_api_Jump (api_Jump.mk 0 0)) (e_api_Jump (api_Jump.mk ((List.getD all4 (Int.toNat i6) default).At) 0)) [(e_api_Jump (api_Jump.mk 0 0))] [(lo21, 2, List.map e_api_Jump all4), (lo22, 2, List.map e_api_Jump out5), (lo25, 2, [(e_api_Jump (api_Jump.mk ((List.getD all4 (Int.toNat i6) default).At) 0))])] hO rfl (by kernel_rfl) ?_
    intro H hO
    refine R_en ?_
    refine E_ad [] [(7, (.lp lo25 0 0))] ?_
    refine C_sj (fun T H => ∃ all4 : List api_Jump, ∃ out5 : List api_Jump, ∃ i6 : Int, ∃ j7 : api_Jump, ∃ lo26 : Nat, ∃ lo27 : Nat, ∃ lo28 : Nat, Has T [(4, (.msl 2 lo26 0 (List.length all4))), (5, (.msl 2 lo27 0 (List.length out5))), (6, (eInt .i64 i6)), (7, (.lp lo28 0 0))] ∧ Owns ⟨H0, [], []⟩ H [(lo26, 2, List.map e_api_Jump all4), (lo27, 2, List.map e_api_Jump out5), (lo28, 2, [(e_api_Jump j7)])] ∧ step_Norm_j3 all4 out5 i6 j7 = some out1) ?_ ?_
    · clear hO h1
      rintro T H ⟨all4, out5, i6, j7, lo26, lo27, lo28, hT, hO, h1⟩
      refine C_has hT ?_
      clear hT
      unfold step_Norm_j3 at h1
      refine C_sq ?_
      refine C_rg ttOk 8 ?_
      refine R_pu 1 ?_
      refine R_lO 2 lo28 2 0 (e_api_Jump j7) (eInt .i64 j7.Net) [(e_api_Jump j7)] hO rfl ?_
      refine R_pu 5 ?_
      refine R_loadO [(55, true)] 2 lo28 2 0 (e_api_Jump j7) (eInt .i64 j7.At) [(e_api_Jump j7)] (by kernel_rfl) (by kernel_rfl) hO (by kernel_rfl) (!decide (j7.Net = (0 : Int))) (by kernel_rfl) (fun hb29 => rfl) ?_
      refine R_al ?_
      refine E_ad [] [(59, (eBool ((!decide (j7.Net = (0 : Int))) && (decide (j7.At < (1125899906842624 : Int))))))] ?_
      refine C_cd h1 (fun h1 => ?_) (fun h1 => ?_)
      · refine C_rg ttOk 5 ?_
        refine R_pu 1 ?_
        refine R_lO 2 lo28 2 0 (e_api_Jump j7) (e_api_Jump j7) [(e_api_Jump j7)] hO rfl ?_
        refine R_bsl (xs := [(e_api_Jump j7)]) (k := 2) (by kernel_rfl) (by kernel_rfl) ?_
        obtain ⟨c32, h1⟩ := asrtE h1
        refine R_appOL (e := e_api_Jump) out5 ([j7]) 1 lo27 2 16 (frozenOf [(e_api_Jump j7)]) (fun lo31 => [(lo26, 2, List.map e_api_Jump all4), (lo31, 2, List.map e_api_Jump (out5 ++ ([j7]))), (lo28, 2, [(e_api_Jump j7)])]) (by kernel_rfl) (by kernel_rfl) hO (by kernel_rfl) (by kernel_rfl) c32 (fun _ => by kernel_rfl) ?_
        intro lo31 H hO
        refine R_al ?_
        replace hO := hO.pick (L' := [(lo26, 2, List.map e_api_Jump all4), (lo31, 2, List.map e_api_Jump (out5 ++ ([j7])))]) [0, 1] (by decide) (by kernel_rfl)
        exact E_done (blockA_normal (thenA_normal (⟨rfl, (all4, out5 ++ ([j7]), i6), (Option.some.inj h1).symm, lo26, lo31, .eq (by kernel_rfl), hO⟩)))
      refine C_sk ?_
      replace hO := hO.pick (L' := [(lo26, 2, List.map e_api_Jump all4), (lo27, 2, List.map e_api_Jump out5)]) [0, 1] (by decide) (by kernel_rfl)
      exact E_done (blockA_normal (thenA_normal (⟨rfl, (all4, out5, i6), (Option.some.inj h1).symm, lo26, lo27, .eq (by kernel_rfl), hO⟩)))
    refine C_bk 2 ?_
    refine C_hk [(4, (.msl 2 lo21 0 (List.length all4))), (5, (.msl 2 lo22 0 (List.length out5))), (6, (eInt .i64 i6)), (7, (.lp lo25 0 0))] ?_
    refine C_cut (fun T H => ∃ all4 : List api_Jump, ∃ out5 : List api_Jump, ∃ i6 : Int, ∃ j7 : api_Jump, ∃ lo36 : Nat, ∃ lo37 : Nat, ∃ lo38 : Nat, Has T [(4, (.msl 2 lo36 0 (List.length all4))), (5, (.msl 2 lo37 0 (List.length out5))), (6, (eInt .i64 i6)), (7, (.lp lo38 0 0))] ∧ Owns ⟨H0, [], []⟩ H [(lo36, 2, List.map e_api_Jump all4), (lo37, 2, List.map e_api_Jump out5), (lo38, 2, [(e_api_Jump j7)])] ∧ step_Norm_h4 all4 out5 i6 j7 = some out1) ?_ ⟨all4, out5, i6, api_Jump.mk ((List.getD all4 (Int.toNat i6) default).At) 0, lo21, lo22, lo25, .eq (by kernel_rfl), hO, h1⟩
    clear hO h1
    rintro T H ⟨all4, out5, i6, j7, lo36, lo37, lo38, hT, hO, h1⟩
    refine C_has hT ?_
    clear hT
    unfold step_Norm_h4 at h1
    obtain ⟨rr1, hl1, h1⟩ := bindE h1
    refine C_loopS (by kernel_rfl) (fun (s : List api_Jump × List api_Jump × Int × api_Jump) T H => ∃ lo36 : Nat, ∃ lo37 : Nat, ∃ lo38 : Nat, Has T [(4, (.msl 2 lo36 0 (List.length s.1))), (5, (.msl 2 lo37 0 (List.length s.2.1))), (6, (eInt .i64 s.2.2.1)), (7, (.lp lo38 0 0))] ∧ Owns ⟨H0, [], []⟩ H [(lo36, 2, List.map e_api_Jump s.1), (lo37, 2, List.map e_api_Jump s.2.1), (lo38, 2, [(e_api_Jump s.2.2.2)])]) hl1 ⟨lo36, lo37, lo38, .eq (by kernel_rfl), hO⟩ ?_
    clear hO
    rintro k1 s out2 T H ⟨lo36, lo37, lo38, hT, hO⟩ h2 ho1
    obtain ⟨all4, out5, i6, j7⟩ := s
    replace h2 : step_Norm_l4 all4 out5 i6 j7 = some out2 := h2
    dsimp only at hT
    refine C_has hT ?_
    clear hT
    unfold step_Norm_l4 at h2
    refine C_sq ?_
    refine C_sq ?_
    obtain ⟨c39, h2⟩ := asrtE h2
    refine C_dg (plOf []) ttOk 14 ?_
    refine D_mono (K := fun T H => Has (lift T) [(4, (.msl 2 lo36 0 (List.length all4))), (5, (.msl 2 lo37 0 (List.length out5))), (6, (eInt .i64 i6)), (7, (.lp lo38 0 0)), (40, (eBool ((decide (i6 < ((List.length all4 : Nat) : Int))) && (decide (((List.getD all4 (Int.toNat i6) default).At) = j7.At)))))] ∧ Owns ⟨H0, [], []⟩ H [(lo36, 2, List.map e_api_Jump all4), (lo37, 2, List.map e_api_Jump out5), (lo38, 2, [(e_api_Jump j7)])]) ?_ ?_
    · refine D_pu 5 ?_
      refine D_split (t := 31) (e := decide (i6 < ((List.length all4 : Nat) : Int))) (by kernel_rfl) (fun hg40 => ?_) (fun hg40 => ?_)
      · refine D_ps 9 [0 ≤ i6 ∧ i6 < ((List.length all4 : Nat) : Int)] ⟨(c39 (by first | (simp only [hg40, Bool.not_true, Bool.not_false, Bool.true_and, Bool.and_true, Bool.false_and, Bool.and_false, Bool.or_true, Bool.true_or, Bool.or_false, Bool.false_or, cond_true, cond_false]; done) | simp [hg40])), trivial⟩ ?_
        refine D_loadV 0 lo36 2 (0 + Int.toNat i6) (e_api_Jump (List.getD all4 (Int.toNat i6) default)) (eInt .i64 ((List.getD all4 (Int.toNat i6) default).At)) (List.map e_api_Jump all4) (by kernel_rfl) (by kernel_rfl) (by kernel_rfl) hO (by kernel_rfl) (ownGet (c39 (by first | (simp only [hg40, Bool.not_true, Bool.not_false, Bool.true_and, Bool.and_true, Bool.false_and, Bool.and_false, Bool.or_true, Bool.true_or, Bool.or_false, Bool.false_or, cond_true, cond_false]; done) | simp [hg40]))) ?_
        refine D_pu 11 ?_
        refine D_loadV 2 lo38 2 0 (e_api_Jump j7) (eInt .i64 j7.At) [(e_api_Jump j7)] (by kernel_rfl) (by kernel_rfl) (by kernel_rfl) hO (by kernel_rfl) rfl ?_
        refine D_al ?_
        exact ⟨⟨[(4, (.msl 2 lo36 0 (List.length all4))), (5, (.msl 2 lo37 0 (List.length out5))), (6, (eInt .i64 i6)), (7, (.lp lo38 0 0)), (40, (eBool (decide (((List.getD all4 (Int.toNat i6) default).At) = j7.At))))], by kernel_rfl, rfl, ⟨SubV.refl _, SubV.refl _, SubV.refl _, SubV.refl _, SubV.eq (by first | (simp only [eBool, hg40, Bool.not_true, Bool.not_false, Bool.true_and, Bool.and_true, Bool.false_and, Bool.and_false, Bool.or_true, Bool.true_or, Bool.or_false, Bool.false_or, cond_true, cond_false]; done) | simp [eBool, hg40]), trivial⟩⟩, hO⟩
      refine D_al ?_
      exact ⟨⟨[(4, (.msl 2 lo36 0 (List.length all4))), (5, (.msl 2 lo37 0 (List.length out5))), (6, (eInt .i64 i6)), (7, (.lp lo38 0 0)), (40, (eBool false))], by kernel_rfl, rfl, ⟨SubV.refl _, SubV.refl _, SubV.refl _, SubV.refl _, SubV.eq (by first | (simp only [eBool, hg40, Bool.not_true, Bool.not_false, Bool.true_and, Bool.and_true, Bool.false_and, Bool.and_false, Bool.or_true, Bool.true_or, Bool.or_false, Bool.false_or, cond_true, cond_false]; done) | simp [eBool, hg40]), trivial⟩⟩, hO⟩
    · rintro T H ⟨hT, hO⟩
      refine E_has hT ?_
      clear hT
      refine E_done (thenA_normal ?_)
      refine C_cd h2 (fun h2 => ?_) (fun h2 => ?_)
      · refine C_sk ?_
        refine E_tn [(4, (.msl 2 lo36 0 (List.length all4))), (5, (.msl 2 lo37 0 (List.length out5))), (6, (eInt .i64 i6)), (7, (.lp lo38 0 0))] ?_
        refine C_sq ?_
        refine C_bk 3 ?_
        refine C_dg (plOf []) ttOk 10 ?_
        refine D_pu 1 ?_
        refine D_lO 2 lo38 2 0 (e_api_Jump j7) (eInt .i64 j7.Net) [(e_api_Jump j7)] hO rfl ?_
        obtain ⟨c42, h2⟩ := asrtE h2
        refine D_ps 6 [0 ≤ i6 ∧ i6 < ((List.length all4 : Nat) : Int)] ⟨c42, trivial⟩ ?_
        refine D_lO 0 lo36 2 (0 + Int.toNat i6) (e_api_Jump (List.getD all4 (Int.toNat i6) default)) (eInt .i64 ((List.getD all4 (Int.toNat i6) default).Net)) (List.map e_api_Jump all4) hO (ownGet c42) ?_
        refine D_pu 9 ?_
        refine D_sO 2 lo38 2 0 (e_api_Jump j7) (e_api_Jump (api_Jump.mk j7.At (IntKind.i64.wrap (j7.Net + ((List.getD all4 (Int.toNat i6) default).Net))))) [(e_api_Jump j7)] [(lo36, 2, List.map e_api_Jump all4), (lo37, 2, List.map e_api_Jump out5), (lo38, 2, [(e_api_Jump (api_Jump.mk j7.At (IntKind.i64.wrap (j7.Net + ((List.getD all4 (Int.toNat i6) default).Net)))))])] hO rfl (by kernel_rfl) ?_
        intro H hO
        refine D_end (by kernel_rfl) ?_
        refine E_hk [(4, (.msl 2 lo36 0 (List.length all4))), (5, (.msl 2 lo37 0 (List.length out5))), (6, (eInt .i64 i6)), (7, (.lp lo38 0 0))] ?_
        refine E_done (blockA_normal (thenA_normal (?_)))
        refine C_rg ttOk 3 ?_
        refine R_al ?_
        exact E_done (thenA_normal (⟨rfl, (all4, out5, IntKind.i64.wrap (i6 + (1 : Int)), api_Jump.mk j7.At (IntKind.i64.wrap (j7.Net + ((List.getD all4 (Int.toNat i6) default).Net)))), (Option.some.inj h2).symm, lo36, lo37, lo38, .eq (by kernel_rfl), hO⟩))
      refine C_ex 2 ?_
      obtain rfl := Option.some.inj h2
      obtain rfl : _ = rr1 := ho1
      replace h1 : step_Norm_j3 all4 out5 i6 j7 = some out1 := h1
      exact E_done (thenA_exit (thenA_exit (blockA_hit (thenA_normal (⟨rfl, all4, out5, i6, j7, lo36, lo37, lo38, .eq (by kernel_rfl), hO, h1⟩)))))
  refine C_ex 0 ?_
  replace hO := hO.pick (L' := [(lo22, 2, List.map e_api_Jump out5)]) [1] (by decide) (by kernel_rfl)
  obtain rfl := Option.some.inj h1
  obtain rfl : _ = rr0 := ho0
  replace h0 : step_Norm_j1 out5 = some r := h0
  exact E_done (thenA_exit (thenA_exit (blockA_hit (thenA_normal (⟨rfl, out5, lo22, .eq (by kernel_rfl), hO, h0⟩)))))

theorem w_edge_Norm_4 (f0 : (List api_Jump)) (r : ((List api_Jump) × Int)) (h0 : s_edge_Norm_4 f0 = some r) : Fine Try.prog 64 [(eL e_api_Jump f0)] (.tup [(eL e_api_Jump r.1), (eInt .i64 r.2)]) := by
  intro H0
  refine F_wk Try.func64 ?_
  have hO := Owns.start H0
  unfold s_edge_Norm_4 at h0
  refine S_al ttOk 2 [] [] ?_
  refine C_sq ?_
  refine C_rg ttOk 6 ?_
  refine R_pu 1 ?_
  obtain ⟨x1, hx2, h0⟩ := bindE h0
  refine R_cO 65 [(eL e_api_Jump f0)] (.tup [(eL e_api_Jump x1.1), (eInt .i64 x1.2)]) (w_step_Norm f0 _ hx2) hO ?_
  intro H hO
  refine R_al ?_
  refine E_tn [(2, (eL e_api_Jump x1.1)), (3, (eInt .i64 x1.2))] ?_
  refine C_rt ?_
  obtain rfl := Option.some.inj h0
  exact E_done (Q_ret (x := (.tup [(eL e_api_Jump x1.1), (eInt .i64 x1.2)])) (by kernel_rfl) (SubV.refl _) ⟨rfl, hO.out⟩)

theorem w_edge_Norm (l0 : (List api_Edge)) (r : ((List api_Edge) × Int)) (h0 : s_edge_Norm l0 = some r) : Fine Try.prog 23 [(eL e_api_Edge l0)] (.tup [(eL e_api_Edge r.1), (eInt .i64 r.2)]) := by
  intro H0
  refine F_wk Try.func23 ?_
  have hO := Owns.start H0
  unfold s_edge_Norm at h0
  refine S_al ttOk 2 [] [] ?_
  refine C_sq ?_
  refine C_sq ?_
  refine C_rg ttOk 2 ?_
  refine R_pu 1 ?_
  obtain ⟨x1, hx2, h0⟩ := bindE h0
  refine R_cO 53 [(eL e_api_Edge l0), (.fn (.func 54) [] [])] (eBool x1) (w_slices_ContainsFunc_api_Edge_api_Edge l0 54 [] [] (fun y0 => s_edge_Norm_1 y0) (fun y0 r h => w_edge_Norm_1 y0 r h) _ hx2) hO ?_
  intro H hO
  refine R_en ?_
  refine E_ad [] [(6, (eBool x1))] ?_
  refine C_cd h0 (fun h0 => ?_) (fun h0 => ?_)
  · refine S_tn ttOk 2 [(2, (.sl true 0 (fun _ => .bad))), (3, (eInt .i64 (2 : Int)))] ?_
    refine C_rt ?_
    refine E_has (l := [(2, (eL e_api_Edge ([]))), (3, (eInt .i64 (2 : Int)))]) ⟨[(2, (.sl true 0 (fun _ => .bad))), (3, (eInt .i64 (2 : Int)))], by kernel_rfl, rfl, ⟨subNilL, SubV.refl _, trivial⟩⟩ ?_
    obtain rfl := Option.some.inj h0
    exact E_done (thenA_ret (Q_ret (x := (.tup [(eL e_api_Edge ([])), (eInt .i64 (2 : Int))])) (by kernel_rfl) (SubV.refl _) ⟨rfl, hO.out⟩))
  refine C_sk ?_
  refine E_tn [(0, (eL e_api_Edge l0))] ?_
  refine C_sq ?_
  refine C_sq ?_
  refine C_rg ttOk 2 ?_
  refine R_pu 1 ?_
  obtain ⟨x5, hx6, h0⟩ := bindE h0
  refine R_cO 53 [(eL e_api_Edge l0), (.fn (.func 56) [] [])] (eBool x5) (w_slices_ContainsFunc_api_Edge_api_Edge l0 56 [] [] (fun y0 => s_edge_Norm_2 y0) (fun y0 r h => w_edge_Norm_2 y0 r h) _ hx6) hO ?_
  intro H hO
  refine R_en ?_
  refine E_ad [] [(8, (eBool x5))] ?_
  refine C_cd h0 (fun h0 => ?_) (fun h0 => ?_)
  · refine S_tn ttOk 2 [(2, (.sl true 0 (fun _ => .bad))), (3, (eInt .i64 (13 : Int)))] ?_
    refine C_rt ?_
    refine E_has (l := [(2, (eL e_api_Edge ([]))), (3, (eInt .i64 (13 : Int)))]) ⟨[(2, (.sl true 0 (fun _ => .bad))), (3, (eInt .i64 (13 : Int)))], by kernel_rfl, rfl, ⟨subNilL, SubV.refl _, trivial⟩⟩ ?_
    obtain rfl := Option.some.inj h0
    exact E_done (thenA_ret (Q_ret (x := (.tup [(eL e_api_Edge ([])), (eInt .i64 (13 : Int))])) (by kernel_rfl) (SubV.refl _) ⟨rfl, hO.out⟩))
  refine C_sk ?_
  refine E_tn [(0, (eL e_api_Edge l0))] ?_
  refine C_sq ?_
  refine C_rg ttOk 3 ?_
  refine R_pu 1 ?_
  obtain ⟨x9, hx10, h0⟩ := bindE h0
  refine R_callP (L' := fun lo11 => [(lo11, 3, List.map e_api_Edge x9)]) 3 (List.map e_api_Edge x9) 57 [(eL e_api_Edge l0)] (fun lo11 => (.msl 3 lo11 0 (List.length x9))) (by kernel_rfl) (by kernel_rfl) (w_slices_Clone_api_Edge_api_Edge l0 _ hx10) hO (fun _ => by kernel_rfl) ?_
  intro lo11 H hO
  refine R_al ?_
  refine E_tn [(4, (.msl 3 lo11 0 (List.length x9)))] ?_
  refine C_sq ?_
  refine C_rg ttOk 2 ?_
  refine R_pu 1 ?_
  obtain ⟨x12, hx13, h0⟩ := bindE h0
  refine R_callI (L' := [(lo11, 3, List.map e_api_Edge x12)]) 0 lo11 3 (List.map e_api_Edge x9) (List.map e_api_Edge x12) 58 [(.msl 3 lo11 0 (List.length x9)), (.fn (.func 59) [] [])] (.tup []) (by kernel_rfl) (by kernel_rfl) (w_slices_SortStableFunc_api_Edge_api_Edge lo11 x9 59 [] [] (fun y0 y1 => s_edge_Norm_3 y0 y1) (fun y0 y1 r h => w_edge_Norm_3 y0 y1 r h) _ hx13) hO (by kernel_rfl) (by kernel_rfl) ?_
  intro H hO hl14
  simp only [List.length_map] at hl14
  refine R_en ?_
  refine E_has (l := [(4, (.msl 3 lo11 0 (List.length x12)))]) ⟨[(4, (.msl 3 lo11 0 (List.length x9)))], by kernel_rfl, rfl, ⟨SubV.eq (by simp [hl14]), trivial⟩⟩ ?_
  refine E_done (thenA_normal (?_))
  refine C_sq ?_
  refine C_rg ttOk 6 ?_
  refine R_freezeO (e := e_api_Edge) x12 0 4 3 lo11 (List.length x12) [] (by kernel_rfl) hO (by kernel_rfl) (by kernel_rfl) (by kernel_rfl) (by kernel_rfl) ?_
  intro H hO
  refine R_pu 1 ?_
  obtain ⟨x15, hx16, h0⟩ := bindE h0
  refine R_cO 63 [(eL e_api_Edge x12), (.fn (.func 64) [] [])] (.tup [(eL e_api_Edge x15.1), (eInt .i64 x15.2)]) (w_edge_mapped x12 64 [] [] (fun y0 => s_edge_Norm_4 y0) (fun y0 r h => w_edge_Norm_4 y0 r h) _ hx16) hO ?_
  intro H hO
  refine R_al ?_
  refine E_tn [(2, (eL e_api_Edge x15.1)), (3, (eInt .i64 x15.2))] ?_
  refine C_rt ?_
  obtain rfl := Option.some.inj h0
  exact E_done (Q_ret (x := (.tup [(eL e_api_Edge x15.1), (eInt .i64 x15.2)])) (by kernel_rfl) (SubV.refl _) ⟨rfl, hO.out⟩)

theorem w_ref05_May (v0 : api_Value) (r : Bool) (h0 : s_ref05_May v0 = some r) : Fine Try.prog 76 [(e_api_Value v0)] (eBool r) := by
  intro H0
  refine F_wk Try.func76 ?_
  have hO := Owns.start H0
  unfold s_ref05_May at h0
  refine C_sq ?_
  refine C_rg ttOk 2 ?_
  refine R_boxF 3 (e_api_Value v0) (by kernel_rfl) (by kernel_rfl) ?_
  refine R_al ?_
  refine E_tn [(1, (.rp (e_api_Value v0)))] ?_
  refine C_sq ?_
  refine S_al ttOk 3 [] [(5, (eBool (decide (v0.Kind = (1 : Int)))))] ?_
  refine C_cd h0 (fun h0 => ?_) (fun h0 => ?_)
  · refine S_tn ttOk 4 [(2, (eBool (strEq v0.Text (⟨#[]⟩ : ByteArray))))] ?_
    refine C_rt ?_
    obtain rfl := Option.some.inj h0
    exact E_done (thenA_ret (Q_ret (x := (eBool (strEq v0.Text (⟨#[]⟩ : ByteArray)))) (by kernel_rfl) (SubV.refl _) ⟨rfl, hO.out⟩))
  refine C_sk ?_
  refine E_tn [(1, (.rp (e_api_Value v0)))] ?_
  refine S_tn ttOk 15 [(2, (eBool (((decide (v0.Kind = (2 : Int))) && (decide (v0.Num = (0 : Int)))) && (decide (((ByteArray.size v0.Text : Nat) : Int) ≤ (64 : Int))))))] ?_
  refine C_rt ?_
  obtain rfl := Option.some.inj h0
  exact E_done (Q_ret (x := (eBool (((decide (v0.Kind = (2 : Int))) && (decide (v0.Num = (0 : Int)))) && (decide (((ByteArray.size v0.Text : Nat) : Int) ≤ (64 : Int)))))) (by kernel_rfl) (SubV.refl _) ⟨rfl, hO.out⟩)

theorem w_ref06_May (r0 : (List api_Value)) (r : Bool) (h0 : s_ref06_May r0 = some r) : Fine Try.prog 32 [(eL e_api_Value r0)] (eBool r) := by
  intro H0
  refine F_wk Try.func32 ?_
  have hO := Owns.start H0
  unfold s_ref06_May at h0
  refine S_al ttOk 1 [] [] ?_
  refine C_sj (fun T H => Has T [(0, (eL e_api_Value r0))] ∧ Owns ⟨H0, [], []⟩ H [] ∧ ref06_May_j1 r0 = some r) ?_ ?_
  · clear hO h0
    rintro T H ⟨hT, hO, h0⟩
    refine C_has hT ?_
    clear hT
    unfold ref06_May_j1 at h0
    refine S_tn ttOk 4 [(2, (eBool (decide (((List.length r0 : Nat) : Int) ≤ (8 : Int)))))] ?_
    refine C_rt ?_
    obtain rfl := Option.some.inj h0
    exact E_done (Q_ret (x := (eBool (decide (((List.length r0 : Nat) : Int) ≤ (8 : Int))))) (by kernel_rfl) (SubV.refl _) ⟨rfl, hO.out⟩)
  refine S_al ttOk 1 [] [(3, (eInt .i64 (0 : Int)))] ?_
  refine C_bk 0 ?_
  refine C_hk [(0, (eL e_api_Value r0)), (3, (eInt .i64 (0 : Int)))] ?_
  refine C_cut (fun T H => ∃ i3 : Int, Has T [(0, (eL e_api_Value r0)), (3, (eInt .i64 i3))] ∧ Owns ⟨H0, [], []⟩ H [] ∧ ref06_May_h2 r0 i3 = some r) ?_ ⟨(0 : Int), .eq (by kernel_rfl), hO, h0⟩
  clear hO h0
  rintro T H ⟨i3, hT, hO, h0⟩
  refine C_has hT ?_
  clear hT
  unfold ref06_May_h2 at h0
  obtain ⟨rr0, hl0, h0⟩ := bindE h0
  refine C_loopS (by kernel_rfl) (fun (s : Int) T H => Has T [(0, (eL e_api_Value r0)), (3, (eInt .i64 s))] ∧ Owns ⟨H0, [], []⟩ H []) hl0 ⟨.eq (by kernel_rfl), hO⟩ ?_
  clear hO
  rintro k0 s out1 T H ⟨hT, hO⟩ h1 ho0
  obtain ⟨i3, rfl⟩ : ∃ x, x = s := ⟨_, rfl⟩
  replace h1 : ref06_May_l2 r0 i3 = some out1 := h1
  refine C_has hT ?_
  clear hT
  unfold ref06_May_l2 at h1
  refine C_sq ?_
  refine S_al ttOk 8 [] [(11, (eBool ((decide (i3 < ((List.length r0 : Nat) : Int))) && (decide (i3 < (9 : Int))))))] ?_
  refine C_cd h1 (fun h1 => ?_) (fun h1 => ?_)
  · refine C_sk ?_
    refine E_tn [(0, (eL e_api_Value r0)), (3, (eInt .i64 i3))] ?_
    refine C_sq ?_
    refine C_bk 1 ?_
    refine C_sq ?_
    refine C_rg ttOk 6 ?_
    obtain ⟨c2, h1⟩ := asrtE h1
    refine R_ps 4 [0 ≤ i3 ∧ i3 < ((List.length r0 : Nat) : Int)] ⟨c2, trivial⟩ ?_
    obtain ⟨x3, hx4, h1⟩ := bindE h1
    refine R_cO 76 [(e_api_Value (List.getD r0 (Int.toNat i3) default))] (eBool x3) (w_ref05_May (List.getD r0 (Int.toNat i3) default) _ hx4) hO ?_
    intro H hO
    refine R_al ?_
    refine E_ad [] [(19, (eBool (!x3)))] ?_
    refine C_cd h1 (fun h1 => ?_) (fun h1 => ?_)
    · refine S_tn ttOk 1 [(2, (eBool false))] ?_
      refine C_rt ?_
      obtain rfl := Option.some.inj h1
      obtain rfl : _ = rr0 := ho0
      replace h0 : some false = some r := h0
      obtain rfl := Option.some.inj h0
      exact E_done (blockA_ret (thenA_ret (thenA_ret (blockA_ret (thenA_ret (Q_ret (x := (eBool false)) (by kernel_rfl) (SubV.refl _) ⟨rfl, hO.out⟩))))))
    refine C_sk ?_
    refine E_hk [(0, (eL e_api_Value r0)), (3, (eInt .i64 i3))] ?_
    refine E_done (blockA_normal (thenA_normal (?_)))
    refine C_rg ttOk 3 ?_
    refine R_al ?_
    exact E_done (thenA_normal (⟨rfl, IntKind.i64.wrap (i3 + (1 : Int)), (Option.some.inj h1).symm, .eq (by kernel_rfl), hO⟩))
  refine C_ex 0 ?_
  obtain rfl := Option.some.inj h1
  obtain rfl : _ = rr0 := ho0
  replace h0 : ref06_May_j1 r0 = some r := h0
  exact E_done (thenA_exit (thenA_exit (blockA_hit (thenA_normal (⟨rfl, .eq (by kernel_rfl), hO, h0⟩)))))

theorem w_ref09_May (f0 : (List api_Jump)) (r : Bool) (h0 : s_ref09_May f0 = some r) : Fine Try.prog 33 [(eL e_api_Jump f0)] (eBool r) := by
  intro H0
  refine F_wk Try.func33 ?_
  have hO := Owns.start H0
  unfold s_ref09_May at h0
  refine S_al ttOk 1 [] [] ?_
  refine C_sq ?_
  refine S_al ttOk 3 [] [(6, (eBool (decide ((1024 : Int) < ((List.length f0 : Nat) : Int)))))] ?_
  refine C_cd h0 (fun h0 => ?_) (fun h0 => ?_)
  · refine S_tn ttOk 1 [(2, (eBool false))] ?_
    refine C_rt ?_
    obtain rfl := Option.some.inj h0
    exact E_done (thenA_ret (Q_ret (x := (eBool false)) (by kernel_rfl) (SubV.refl _) ⟨rfl, hO.out⟩))
  refine C_sk ?_
  refine E_tn [(0, (eL e_api_Jump f0))] ?_
  refine C_sj (fun T H => Has T [] ∧ Owns ⟨H0, [], []⟩ H [] ∧ ref09_May_j1  = some r) ?_ ?_
  · clear hO h0
    rintro T H ⟨hT, hO, h0⟩
    refine C_has hT ?_
    clear hT
    unfold ref09_May_j1 at h0
    refine S_tn ttOk 1 [(2, (eBool true))] ?_
    refine C_rt ?_
    obtain rfl := Option.some.inj h0
    exact E_done (Q_ret (x := (eBool true)) (by kernel_rfl) (SubV.refl _) ⟨rfl, hO.out⟩)
  refine S_al ttOk 1 [] [(3, (eInt .i64 (0 : Int)))] ?_
  refine C_bk 0 ?_
  refine C_hk [(0, (eL e_api_Jump f0)), (3, (eInt .i64 (0 : Int)))] ?_
  refine C_cut (fun T H => ∃ i3 : Int, Has T [(0, (eL e_api_Jump f0)), (3, (eInt .i64 i3))] ∧ Owns ⟨H0, [], []⟩ H [] ∧ ref09_May_h2 f0 i3 = some r) ?_ ⟨(0 : Int), .eq (by kernel_rfl), hO, h0⟩
  clear hO h0
  rintro T H ⟨i3, hT, hO, h0⟩
  refine C_has hT ?_
  clear hT
  unfold ref09_May_h2 at h0
  obtain ⟨rr0, hl0, h0⟩ := bindE h0
  refine C_loopS (by kernel_rfl) (fun (s : Int) T H => Has T [(0, (eL e_api_Jump f0)), (3, (eInt .i64 s))] ∧ Owns ⟨H0, [], []⟩ H []) hl0 ⟨.eq (by kernel_rfl), hO⟩ ?_
  clear hO
  rintro k0 s out1 T H ⟨hT, hO⟩ h1 ho0
  obtain ⟨i3, rfl⟩ : ∃ x, x = s := ⟨_, rfl⟩
  replace h1 : ref09_May_l2 f0 i3 = some out1 := h1
  refine C_has hT ?_
  clear hT
  unfold ref09_May_l2 at h1
  refine C_sq ?_
  refine S_al ttOk 4 [] [(10, (eBool (decide (i3 < ((List.length f0 : Nat) : Int)))))] ?_
  refine C_cd h1 (fun h1 => ?_) (fun h1 => ?_)
  · refine C_sk ?_
    refine E_tn [(0, (eL e_api_Jump f0)), (3, (eInt .i64 i3))] ?_
    refine C_sq ?_
    refine C_bk 1 ?_
    refine C_sq ?_
    refine C_sq ?_
    refine C_rg ttOk 38 ?_
    obtain ⟨c3, h1⟩ := asrtE h1
    obtain ⟨c4, h1⟩ := asrtE h1
    obtain ⟨c5, h1⟩ := asrtE h1
    obtain ⟨c6, h1⟩ := asrtE h1
    obtain ⟨c7, h1⟩ := asrtE h1
    refine R_as [0 ≤ i3 ∧ i3 < ((List.length f0 : Nat) : Int), (((!(decide (((List.getD f0 (Int.toNat i3) default).At) < (-1 : Int))))) = true → 0 ≤ i3 ∧ i3 < ((List.length f0 : Nat) : Int)), (((!((decide (((List.getD f0 (Int.toNat i3) default).At) < (-1 : Int))) || (decide ((1125899906842624 : Int) ≤ ((List.getD f0 (Int.toNat i3) default).At)))))) = true → 0 ≤ i3 ∧ i3 < ((List.length f0 : Nat) : Int)), (((!(((decide (((List.getD f0 (Int.toNat i3) default).At) < (-1 : Int))) || (decide ((1125899906842624 : Int) ≤ ((List.getD f0 (Int.toNat i3) default).At)))) || (decide (((List.getD f0 (Int.toNat i3) default).Net) = (0 : Int)))))) = true → 0 ≤ i3 ∧ i3 < ((List.length f0 : Nat) : Int)), (((!((((decide (((List.getD f0 (Int.toNat i3) default).At) < (-1 : Int))) || (decide ((1125899906842624 : Int) ≤ ((List.getD f0 (Int.toNat i3) default).At)))) || (decide (((List.getD f0 (Int.toNat i3) default).Net) = (0 : Int)))) || (decide ((1048576 : Int) < ((List.getD f0 (Int.toNat i3) default).Net)))))) = true → 0 ≤ i3 ∧ i3 < ((List.length f0 : Nat) : Int))] ⟨c3, c4, c5, c6, c7, trivial⟩ ?_
    refine E_ad [] [(50, (eBool (((((decide (((List.getD f0 (Int.toNat i3) default).At) < (-1 : Int))) || (decide ((1125899906842624 : Int) ≤ ((List.getD f0 (Int.toNat i3) default).At)))) || (decide (((List.getD f0 (Int.toNat i3) default).Net) = (0 : Int)))) || (decide ((1048576 : Int) < ((List.getD f0 (Int.toNat i3) default).Net)))) || (decide (((List.getD f0 (Int.toNat i3) default).Net) < (-1048576 : Int))))))] ?_
    refine C_cd h1 (fun h1 => ?_) (fun h1 => ?_)
    · refine S_tn ttOk 1 [(2, (eBool false))] ?_
      refine C_rt ?_
      obtain rfl := Option.some.inj h1
      obtain rfl : _ = rr0 := ho0
      replace h0 : some false = some r := h0
      obtain rfl := Option.some.inj h0
      exact E_done (thenA_ret (blockA_ret (thenA_ret (thenA_ret (blockA_ret (thenA_ret (Q_ret (x := (eBool false)) (by kernel_rfl) (SubV.refl _) ⟨rfl, hO.out⟩)))))))
    refine C_sk ?_
    refine E_tn [(0, (eL e_api_Jump f0)), (3, (eInt .i64 i3))] ?_
    refine C_sq ?_
    obtain ⟨c9, h1⟩ := asrtE h1
    obtain ⟨c10, h1⟩ := asrtE h1
    refine C_dg (plOf [58, 64]) ttOk 16 ?_
    refine D_mono (K := fun T H => Has (lift T) [(0, (eL e_api_Jump f0)), (3, (eInt .i64 i3)), (66, (eBool ((decide ((0 : Int) < i3)) && (decide (((List.getD f0 (Int.toNat i3) default).At) ≤ ((List.getD f0 (Int.toNat (IntKind.i64.wrap (i3 - (1 : Int)))) default).At))))))] ∧ Owns ⟨H0, [], []⟩ H []) ?_ ?_
    · refine D_pu 3 ?_
      refine D_split (t := 53) (e := decide ((0 : Int) < i3)) (by kernel_rfl) (fun hg11 => ?_) (fun hg11 => ?_)
      · refine D_all (Ds := [0 ≤ i3 ∧ i3 < ((List.length f0 : Nat) : Int), 0 ≤ (IntKind.i64.wrap (i3 - (1 : Int))) ∧ (IntKind.i64.wrap (i3 - (1 : Int))) < ((List.length f0 : Nat) : Int)]) (by kernel_rfl) ⟨(c9 (by first | (simp only [hg11, Bool.not_true, Bool.not_false, Bool.true_and, Bool.and_true, Bool.false_and, Bool.and_false, Bool.or_true, Bool.true_or, Bool.or_false, Bool.false_or, cond_true, cond_false]; done) | simp [hg11])), (c10 (by first | (simp only [hg11, Bool.not_true, Bool.not_false, Bool.true_and, Bool.and_true, Bool.false_and, Bool.and_false, Bool.or_true, Bool.true_or, Bool.or_false, Bool.false_or, cond_true, cond_false]; done) | simp [hg11])), trivial⟩ ?_
        exact ⟨⟨[(0, (eL e_api_Jump f0)), (3, (eInt .i64 i3)), (66, (eBool (decide (((List.getD f0 (Int.toNat i3) default).At) ≤ ((List.getD f0 (Int.toNat (IntKind.i64.wrap (i3 - (1 : Int)))) default).At)))))], by kernel_rfl, rfl, ⟨SubV.refl _, SubV.refl _, SubV.eq (by first | (simp only [eBool, hg11, Bool.not_true, Bool.not_false, Bool.true_and, Bool.and_true, Bool.false_and, Bool.and_false, Bool.or_true, Bool.true_or, Bool.or_false, Bool.false_or, cond_true, cond_false]; done) | simp [eBool, hg11]), trivial⟩⟩, hO⟩
      refine D_al ?_
      exact ⟨⟨[(0, (eL e_api_Jump f0)), (3, (eInt .i64 i3)), (66, (eBool false))], by kernel_rfl, rfl, ⟨SubV.refl _, SubV.refl _, SubV.eq (by first | (simp only [eBool, hg11, Bool.not_true, Bool.not_false, Bool.true_and, Bool.and_true, Bool.false_and, Bool.and_false, Bool.or_true, Bool.true_or, Bool.or_false, Bool.false_or, cond_true, cond_false]; done) | simp [eBool, hg11]), trivial⟩⟩, hO⟩
    · rintro T H ⟨hT, hO⟩
      refine E_has hT ?_
      clear hT
      refine E_done (thenA_normal ?_)
      refine C_cd h1 (fun h1 => ?_) (fun h1 => ?_)
      · refine S_tn ttOk 1 [(2, (eBool false))] ?_
        refine C_rt ?_
        obtain rfl := Option.some.inj h1
        obtain rfl : _ = rr0 := ho0
        replace h0 : some false = some r := h0
        obtain rfl := Option.some.inj h0
        exact E_done (blockA_ret (thenA_ret (thenA_ret (blockA_ret (thenA_ret (Q_ret (x := (eBool false)) (by kernel_rfl) (SubV.refl _) ⟨rfl, hO.out⟩))))))
      refine C_sk ?_
      refine E_hk [(0, (eL e_api_Jump f0)), (3, (eInt .i64 i3))] ?_
      refine E_done (blockA_normal (thenA_normal (?_)))
      refine C_rg ttOk 3 ?_
      refine R_al ?_
      exact E_done (thenA_normal (⟨rfl, IntKind.i64.wrap (i3 + (1 : Int)), (Option.some.inj h1).symm, .eq (by kernel_rfl), hO⟩))
  refine C_ex 0 ?_
  obtain rfl := Option.some.inj h1
  obtain rfl : _ = rr0 := ho0
  replace h0 : ref09_May_j1  = some r := h0
  exact E_done (thenA_exit (thenA_exit (blockA_hit (thenA_normal (⟨rfl, .eq (by kernel_rfl), hO, h0⟩)))))

theorem w_ref05_Compare (a0 : api_Value) (b1 : api_Value) (r : Int) (h0 : s_ref05_Compare a0 b1 = some r) : Fine Try.prog 103 [(e_api_Value a0), (e_api_Value b1)] (eInt .i64 r) := by
  intro H0
  refine F_wk Try.func103 ?_
  have hO := Owns.start H0
  unfold s_ref05_Compare at h0
  refine C_sq ?_
  refine C_rg ttOk 3 ?_
  refine R_boxF 3 (e_api_Value a0) (by kernel_rfl) (by kernel_rfl) ?_
  refine R_boxF 3 (e_api_Value b1) (by kernel_rfl) (by kernel_rfl) ?_
  refine R_al ?_
  refine E_tn [(2, (.rp (e_api_Value a0))), (3, (.rp (e_api_Value b1)))] ?_
  refine C_sq ?_
  refine C_sq ?_
  refine C_rg ttOk 8 ?_
  refine R_pu 1 ?_
  obtain ⟨x1, hx2, h0⟩ := bindE h0
  refine R_cO 76 [(e_api_Value a0)] (eBool x1) (w_ref05_May a0 _ hx2) hO ?_
  intro H hO
  refine R_pu 5 ?_
  obtain ⟨x4, hx5, h0⟩ := bindE h0
  refine R_callO [(9, false)] 76 [(e_api_Value b1)] (eBool x4) (!(!x1)) (by kernel_rfl) (by kernel_rfl) (by kernel_rfl) (fun hb6 => (w_ref05_May b1 _ (gcallE hx5 hb6))) hO ?_
  intro H hO
  refine R_al ?_
  refine E_ad [] [(13, (eBool ((!x1) || (!x4))))] ?_
  refine C_cd h0 (fun h0 => ?_) (fun h0 => ?_)
  · refine S_tn ttOk 1 [(4, (eInt .i64 (0 : Int)))] ?_
    refine C_rt ?_
    obtain rfl := Option.some.inj h0
    exact E_done (thenA_ret (Q_ret (x := (eInt .i64 (0 : Int))) (by kernel_rfl) (SubV.refl _) ⟨rfl, hO.out⟩))
  refine C_sk ?_
  refine E_tn [(2, (.rp (e_api_Value a0))), (3, (.rp (e_api_Value b1)))] ?_
  refine C_sq ?_
  refine S_al ttOk 5 [] [(18, (eBool (!decide (a0.Kind = b1.Kind))))] ?_
  refine C_cd h0 (fun h0 => ?_) (fun h0 => ?_)
  · refine C_sq ?_
    refine S_tn ttOk 3 [(21, (eBool (decide (a0.Kind = (1 : Int)))))] ?_
    refine C_cd h0 (fun h0 => ?_) (fun h0 => ?_)
    · refine S_tn ttOk 1 [(4, (eInt .i64 (-1 : Int)))] ?_
      refine C_rt ?_
      obtain rfl := Option.some.inj h0
      exact E_done (thenA_ret (thenA_ret (Q_ret (x := (eInt .i64 (-1 : Int))) (by kernel_rfl) (SubV.refl _) ⟨rfl, hO.out⟩)))
    refine C_sk ?_
    refine E_tn [] ?_
    refine S_tn ttOk 1 [(4, (eInt .i64 (1 : Int)))] ?_
    refine C_rt ?_
    obtain rfl := Option.some.inj h0
    exact E_done (thenA_ret (Q_ret (x := (eInt .i64 (1 : Int))) (by kernel_rfl) (SubV.refl _) ⟨rfl, hO.out⟩))
  refine C_sk ?_
  refine E_tn [(2, (.rp (e_api_Value a0))), (3, (.rp (e_api_Value b1)))] ?_
  refine C_sq ?_
  refine S_al ttOk 5 [] [(26, (eBool (!decide (a0.Num = b1.Num))))] ?_
  refine C_cd h0 (fun h0 => ?_) (fun h0 => ?_)
  · refine C_sq ?_
    refine S_tn ttOk 5 [(31, (eBool (decide (a0.Num < b1.Num))))] ?_
    refine C_cd h0 (fun h0 => ?_) (fun h0 => ?_)
    · refine S_tn ttOk 1 [(4, (eInt .i64 (-1 : Int)))] ?_
      refine C_rt ?_
      obtain rfl := Option.some.inj h0
      exact E_done (thenA_ret (thenA_ret (Q_ret (x := (eInt .i64 (-1 : Int))) (by kernel_rfl) (SubV.refl _) ⟨rfl, hO.out⟩)))
    refine C_sk ?_
    refine E_tn [] ?_
    refine S_tn ttOk 1 [(4, (eInt .i64 (1 : Int)))] ?_
    refine C_rt ?_
    obtain rfl := Option.some.inj h0
    exact E_done (thenA_ret (Q_ret (x := (eInt .i64 (1 : Int))) (by kernel_rfl) (SubV.refl _) ⟨rfl, hO.out⟩))
  refine C_sk ?_
  refine E_tn [(2, (.rp (e_api_Value a0))), (3, (.rp (e_api_Value b1)))] ?_
  refine C_sj (fun T H => ∃ a2 : api_Value, ∃ b3 : api_Value, Has T [(2, (.rp (e_api_Value a2))), (3, (.rp (e_api_Value b3)))] ∧ Owns ⟨H0, [], []⟩ H [] ∧ ref05_Compare_j1 a2 b3 = some r) ?_ ?_
  · clear hO h0
    rintro T H ⟨a2, b3, hT, hO, h0⟩
    refine C_has hT ?_
    clear hT
    unfold ref05_Compare_j1 at h0
    refine C_sq ?_
    refine S_al ttOk 7 [] [(70, (eBool (!decide (((ByteArray.size a2.Text : Nat) : Int) = ((ByteArray.size b3.Text : Nat) : Int)))))] ?_
    refine C_cd h0 (fun h0 => ?_) (fun h0 => ?_)
    · refine C_sq ?_
      refine S_tn ttOk 7 [(77, (eBool (decide (((ByteArray.size a2.Text : Nat) : Int) < ((ByteArray.size b3.Text : Nat) : Int)))))] ?_
      refine C_cd h0 (fun h0 => ?_) (fun h0 => ?_)
      · refine S_tn ttOk 1 [(4, (eInt .i64 (-1 : Int)))] ?_
        refine C_rt ?_
        obtain rfl := Option.some.inj h0
        exact E_done (thenA_ret (thenA_ret (Q_ret (x := (eInt .i64 (-1 : Int))) (by kernel_rfl) (SubV.refl _) ⟨rfl, hO.out⟩)))
      refine C_sk ?_
      refine E_tn [] ?_
      refine S_tn ttOk 1 [(4, (eInt .i64 (1 : Int)))] ?_
      refine C_rt ?_
      obtain rfl := Option.some.inj h0
      exact E_done (thenA_ret (Q_ret (x := (eInt .i64 (1 : Int))) (by kernel_rfl) (SubV.refl _) ⟨rfl, hO.out⟩))
    refine C_sk ?_
    refine E_tn [] ?_
    refine S_tn ttOk 1 [(4, (eInt .i64 (0 : Int)))] ?_
    refine C_rt ?_
    obtain rfl := Option.some.inj h0
    exact E_done (Q_ret (x := (eInt .i64 (0 : Int))) (by kernel_rfl) (SubV.refl _) ⟨rfl, hO.out⟩)
  refine S_al ttOk 1 [] [(5, (eInt .i64 (0 : Int)))] ?_
  refine C_bk 0 ?_
  refine C_hk [(2, (.rp (e_api_Value a0))), (3, (.rp (e_api_Value b1))), (5, (eInt .i64 (0 : Int)))] ?_
  refine C_cut (fun T H => ∃ a2 : api_Value, ∃ b3 : api_Value, ∃ i5 : Int, Has T [(2, (.rp (e_api_Value a2))), (3, (.rp (e_api_Value b3))), (5, (eInt .i64 i5))] ∧ Owns ⟨H0, [], []⟩ H [] ∧ ref05_Compare_h2 a2 b3 i5 = some r) ?_ ⟨a0, b1, (0 : Int), .eq (by kernel_rfl), hO, h0⟩
  clear hO h0
  rintro T H ⟨a2, b3, i5, hT, hO, h0⟩
  refine C_has hT ?_
  clear hT
  unfold ref05_Compare_h2 at h0
  obtain ⟨rr0, hl0, h0⟩ := bindE h0
  refine C_loopS (by kernel_rfl) (fun (s : Int) T H => Has T [(2, (.rp (e_api_Value a2))), (3, (.rp (e_api_Value b3))), (5, (eInt .i64 s))] ∧ Owns ⟨H0, [], []⟩ H []) hl0 ⟨.eq (by kernel_rfl), hO⟩ ?_
  clear hO
  rintro k0 s out1 T H ⟨hT, hO⟩ h1 ho0
  obtain ⟨i5, rfl⟩ : ∃ x, x = s := ⟨_, rfl⟩
  replace h1 : ref05_Compare_l2 a2 b3 i5 = some out1 := h1
  refine C_has hT ?_
  clear hT
  unfold ref05_Compare_l2 at h1
  refine C_sq ?_
  refine S_al ttOk 12 [] [(43, (eBool ((decide (i5 < ((ByteArray.size a2.Text : Nat) : Int))) && (decide (i5 < ((ByteArray.size b3.Text : Nat) : Int))))))] ?_
  refine C_cd h1 (fun h1 => ?_) (fun h1 => ?_)
  · refine C_sk ?_
    refine E_tn [(2, (.rp (e_api_Value a2))), (3, (.rp (e_api_Value b3))), (5, (eInt .i64 i5))] ?_
    refine C_sq ?_
    refine C_bk 1 ?_
    refine C_sq ?_
    refine C_dg (plOf [47, 51]) ttOk 9 ?_
    obtain ⟨c15, h1⟩ := asrtE h1
    obtain ⟨c16, h1⟩ := asrtE h1
    refine D_all (Ds := [0 ≤ i5 ∧ i5 < ((ByteArray.size a2.Text : Nat) : Int), 0 ≤ i5 ∧ i5 < ((ByteArray.size b3.Text : Nat) : Int)]) (by kernel_rfl) ⟨c15, c16, trivial⟩ ?_
    refine E_ad [] [(54, (eBool (!decide ((bt a2.Text i5) = (bt b3.Text i5)))))] ?_
    refine C_cd h1 (fun h1 => ?_) (fun h1 => ?_)
    · refine C_sq ?_
      refine C_sq ?_
      refine C_dg (plOf [56, 60]) ttOk 9 ?_
      obtain ⟨c18, h1⟩ := asrtE h1
      obtain ⟨c19, h1⟩ := asrtE h1
      refine D_all (Ds := [0 ≤ i5 ∧ i5 < ((ByteArray.size a2.Text : Nat) : Int), 0 ≤ i5 ∧ i5 < ((ByteArray.size b3.Text : Nat) : Int)]) (by kernel_rfl) ⟨c18, c19, trivial⟩ ?_
      refine E_tn [(63, (eBool (decide ((bt a2.Text i5) < (bt b3.Text i5)))))] ?_
      refine C_cd h1 (fun h1 => ?_) (fun h1 => ?_)
      · refine S_tn ttOk 1 [(4, (eInt .i64 (-1 : Int)))] ?_
        refine C_rt ?_
        obtain rfl := Option.some.inj h1
        obtain rfl : _ = rr0 := ho0
        replace h0 : some (-1 : Int) = some r := h0
        obtain rfl := Option.some.inj h0
        exact E_done (thenA_ret (blockA_ret (thenA_ret (thenA_ret (blockA_ret (thenA_ret (Q_ret (x := (eInt .i64 (-1 : Int))) (by kernel_rfl) (SubV.refl _) ⟨rfl, hO.out⟩)))))))
      refine C_sk ?_
      refine E_tn [] ?_
      refine S_tn ttOk 1 [(4, (eInt .i64 (1 : Int)))] ?_
      refine C_rt ?_
      obtain rfl := Option.some.inj h1
      obtain rfl : _ = rr0 := ho0
      replace h0 : some (1 : Int) = some r := h0
      obtain rfl := Option.some.inj h0
      exact E_done (blockA_ret (thenA_ret (thenA_ret (blockA_ret (thenA_ret (Q_ret (x := (eInt .i64 (1 : Int))) (by kernel_rfl) (SubV.refl _) ⟨rfl, hO.out⟩))))))
    refine C_sk ?_
    refine E_hk [(2, (.rp (e_api_Value a2))), (3, (.rp (e_api_Value b3))), (5, (eInt .i64 i5))] ?_
    refine E_done (blockA_normal (thenA_normal (?_)))
    refine C_rg ttOk 3 ?_
    refine R_al ?_
    exact E_done (thenA_normal (⟨rfl, IntKind.i64.wrap (i5 + (1 : Int)), (Option.some.inj h1).symm, .eq (by kernel_rfl), hO⟩))
  refine C_ex 0 ?_
  obtain rfl := Option.some.inj h1
  obtain rfl : _ = rr0 := ho0
  replace h0 : ref05_Compare_j1 a2 b3 = some r := h0
  exact E_done (thenA_exit (thenA_exit (blockA_hit (thenA_normal (⟨rfl, a2, b3, .eq (by kernel_rfl), hO, h0⟩)))))

theorem w_ref06_Compare (a0 : (List api_Value)) (b1 : (List api_Value)) (r : Int) (h0 : s_ref06_Compare a0 b1 = some r) : Fine Try.prog 68 [(eL e_api_Value a0), (eL e_api_Value b1)] (eInt .i64 r) := by
  intro H0
  refine F_wk Try.func68 ?_
  have hO := Owns.start H0
  unfold s_ref06_Compare at h0
  refine S_al ttOk 1 [] [] ?_
  refine C_sq ?_
  refine C_sq ?_
  refine C_rg ttOk 8 ?_
  refine R_pu 1 ?_
  obtain ⟨x1, hx2, h0⟩ := bindE h0
  refine R_cO 32 [(eL e_api_Value a0)] (eBool x1) (w_ref06_May a0 _ hx2) hO ?_
  intro H hO
  refine R_pu 5 ?_
  obtain ⟨x4, hx5, h0⟩ := bindE h0
  refine R_callO [(10, false)] 32 [(eL e_api_Value b1)] (eBool x4) (!(!x1)) (by kernel_rfl) (by kernel_rfl) (by kernel_rfl) (fun hb6 => (w_ref06_May b1 _ (gcallE hx5 hb6))) hO ?_
  intro H hO
  refine R_al ?_
  refine E_ad [] [(14, (eBool ((!x1) || (!x4))))] ?_
  refine C_cd h0 (fun h0 => ?_) (fun h0 => ?_)
  · refine S_tn ttOk 1 [(4, (eInt .i64 (0 : Int)))] ?_
    refine C_rt ?_
    obtain rfl := Option.some.inj h0
    exact E_done (thenA_ret (Q_ret (x := (eInt .i64 (0 : Int))) (by kernel_rfl) (SubV.refl _) ⟨rfl, hO.out⟩))
  refine C_sk ?_
  refine E_tn [(0, (eL e_api_Value a0)), (1, (eL e_api_Value b1))] ?_
  refine C_sj (fun T H => Has T [(0, (eL e_api_Value a0)), (1, (eL e_api_Value b1))] ∧ Owns ⟨H0, [], []⟩ H [] ∧ ref06_Compare_j1 a0 b1 = some r) ?_ ?_
  · clear hO h0
    rintro T H ⟨hT, hO, h0⟩
    refine C_has hT ?_
    clear hT
    unfold ref06_Compare_j1 at h0
    refine C_sq ?_
    refine S_al ttOk 5 [] [(43, (eBool (decide (((List.length a0 : Nat) : Int) < ((List.length b1 : Nat) : Int)))))] ?_
    refine C_cd h0 (fun h0 => ?_) (fun h0 => ?_)
    · refine S_tn ttOk 1 [(4, (eInt .i64 (-1 : Int)))] ?_
      refine C_rt ?_
      obtain rfl := Option.some.inj h0
      exact E_done (thenA_ret (Q_ret (x := (eInt .i64 (-1 : Int))) (by kernel_rfl) (SubV.refl _) ⟨rfl, hO.out⟩))
    refine C_sk ?_
    refine E_tn [(0, (eL e_api_Value a0)), (1, (eL e_api_Value b1))] ?_
    refine C_sq ?_
    refine S_tn ttOk 5 [(48, (eBool (decide (((List.length b1 : Nat) : Int) < ((List.length a0 : Nat) : Int)))))] ?_
    refine C_cd h0 (fun h0 => ?_) (fun h0 => ?_)
    · refine S_tn ttOk 1 [(4, (eInt .i64 (1 : Int)))] ?_
      refine C_rt ?_
      obtain rfl := Option.some.inj h0
      exact E_done (thenA_ret (Q_ret (x := (eInt .i64 (1 : Int))) (by kernel_rfl) (SubV.refl _) ⟨rfl, hO.out⟩))
    refine C_sk ?_
    refine E_tn [] ?_
    refine S_tn ttOk 1 [(4, (eInt .i64 (0 : Int)))] ?_
    refine C_rt ?_
    obtain rfl := Option.some.inj h0
    exact E_done (Q_ret (x := (eInt .i64 (0 : Int))) (by kernel_rfl) (SubV.refl _) ⟨rfl, hO.out⟩)
  refine S_al ttOk 1 [] [(5, (eInt .i64 (0 : Int)))] ?_
  refine C_bk 0 ?_
  refine C_hk [(0, (eL e_api_Value a0)), (1, (eL e_api_Value b1)), (5, (eInt .i64 (0 : Int)))] ?_
  refine C_cut (fun T H => ∃ i5 : Int, Has T [(0, (eL e_api_Value a0)), (1, (eL e_api_Value b1)), (5, (eInt .i64 i5))] ∧ Owns ⟨H0, [], []⟩ H [] ∧ ref06_Compare_h2 a0 b1 i5 = some r) ?_ ⟨(0 : Int), .eq (by kernel_rfl), hO, h0⟩
  clear hO h0
  rintro T H ⟨i5, hT, hO, h0⟩
  refine C_has hT ?_
  clear hT
  unfold ref06_Compare_h2 at h0
  obtain ⟨rr0, hl0, h0⟩ := bindE h0
  refine C_loopS (by kernel_rfl) (fun (s : Int) T H => Has T [(0, (eL e_api_Value a0)), (1, (eL e_api_Value b1)), (5, (eInt .i64 s))] ∧ Owns ⟨H0, [], []⟩ H []) hl0 ⟨.eq (by kernel_rfl), hO⟩ ?_
  clear hO
  rintro k0 s out1 T H ⟨hT, hO⟩ h1 ho0
  obtain ⟨i5, rfl⟩ : ∃ x, x = s := ⟨_, rfl⟩
  replace h1 : ref06_Compare_l2 a0 b1 i5 = some out1 := h1
  refine C_has hT ?_
  clear hT
  unfold ref06_Compare_l2 at h1
  refine C_sq ?_
  refine S_al ttOk 10 [] [(24, (eBool ((decide (i5 < ((List.length a0 : Nat) : Int))) && (decide (i5 < ((List.length b1 : Nat) : Int))))))] ?_
  refine C_cd h1 (fun h1 => ?_) (fun h1 => ?_)
  · refine C_sk ?_
    refine E_tn [(0, (eL e_api_Value a0)), (1, (eL e_api_Value b1)), (5, (eInt .i64 i5))] ?_
    refine C_sq ?_
    refine C_bk 1 ?_
    refine C_sq ?_
    refine C_dg (plOf [30, 34]) ttOk 10 ?_
    obtain ⟨c11, h1⟩ := asrtE h1
    obtain ⟨c12, h1⟩ := asrtE h1
    refine D_ps 8 [0 ≤ i5 ∧ i5 < ((List.length a0 : Nat) : Int), 0 ≤ i5 ∧ i5 < ((List.length b1 : Nat) : Int)] ⟨c11, c12, trivial⟩ ?_
    obtain ⟨x13, hx14, h1⟩ := bindE h1
    refine D_callO 103 [(e_api_Value (List.getD a0 (Int.toNat i5) default)), (e_api_Value (List.getD b1 (Int.toNat i5) default))] (eInt .i64 x13) (by kernel_rfl) (by kernel_rfl) (w_ref05_Compare (List.getD a0 (Int.toNat i5) default) (List.getD b1 (Int.toNat i5) default) _ hx14) hO ?_
    intro H hO
    refine D_al ?_
    refine E_ad [] [(6, (eInt .i64 x13))] ?_
    refine S_al ttOk 2 [] [(37, (eBool (!decide (x13 = (0 : Int)))))] ?_
    refine C_cd h1 (fun h1 => ?_) (fun h1 => ?_)
    · refine S_tn ttOk 2 [(4, (eInt .i64 x13))] ?_
      refine C_rt ?_
      obtain rfl := Option.some.inj h1
      obtain rfl : _ = rr0 := ho0
      replace h0 : some x13 = some r := h0
      obtain rfl := Option.some.inj h0
      exact E_done (blockA_ret (thenA_ret (thenA_ret (blockA_ret (thenA_ret (Q_ret (x := (eInt .i64 x13)) (by kernel_rfl) (SubV.refl _) ⟨rfl, hO.out⟩))))))
    refine C_sk ?_
    refine E_hk [(0, (eL e_api_Value a0)), (1, (eL e_api_Value b1)), (5, (eInt .i64 i5))] ?_
    refine E_done (blockA_normal (thenA_normal (?_)))
    refine C_rg ttOk 3 ?_
    refine R_al ?_
    exact E_done (thenA_normal (⟨rfl, IntKind.i64.wrap (i5 + (1 : Int)), (Option.some.inj h1).symm, .eq (by kernel_rfl), hO⟩))
  refine C_ex 0 ?_
  obtain rfl := Option.some.inj h1
  obtain rfl : _ = rr0 := ho0
  replace h0 : ref06_Compare_j1 a0 b1 = some r := h0
  exact E_done (thenA_exit (thenA_exit (blockA_hit (thenA_normal (⟨rfl, .eq (by kernel_rfl), hO, h0⟩)))))

theorem w_ref06_Same (a0 : (List api_Value)) (b1 : (List api_Value)) (r : Bool) (h0 : s_ref06_Same a0 b1 = some r) : Fine Try.prog 48 [(eL e_api_Value a0), (eL e_api_Value b1)] (eBool r) := by
  intro H0
  refine F_wk Try.func48 ?_
  have hO := Owns.start H0
  unfold s_ref06_Same at h0
  refine S_al ttOk 1 [] [] ?_
  refine C_sq ?_
  refine S_al ttOk 5 [] [(10, (eBool (!decide (((List.length a0 : Nat) : Int) = ((List.length b1 : Nat) : Int)))))] ?_
  refine C_cd h0 (fun h0 => ?_) (fun h0 => ?_)
  · refine S_tn ttOk 1 [(4, (eBool false))] ?_
    refine C_rt ?_
    obtain rfl := Option.some.inj h0
    exact E_done (thenA_ret (Q_ret (x := (eBool false)) (by kernel_rfl) (SubV.refl _) ⟨rfl, hO.out⟩))
  refine C_sk ?_
  refine E_tn [(0, (eL e_api_Value a0)), (1, (eL e_api_Value b1))] ?_
  refine C_sj (fun T H => Has T [] ∧ Owns ⟨H0, [], []⟩ H [] ∧ ref06_Same_j1  = some r) ?_ ?_
  · clear hO h0
    rintro T H ⟨hT, hO, h0⟩
    refine C_has hT ?_
    clear hT
    unfold ref06_Same_j1 at h0
    refine S_tn ttOk 1 [(4, (eBool true))] ?_
    refine C_rt ?_
    obtain rfl := Option.some.inj h0
    exact E_done (Q_ret (x := (eBool true)) (by kernel_rfl) (SubV.refl _) ⟨rfl, hO.out⟩)
  refine S_al ttOk 1 [] [(5, (eInt .i64 (0 : Int)))] ?_
  refine C_bk 0 ?_
  refine C_hk [(0, (eL e_api_Value a0)), (1, (eL e_api_Value b1)), (5, (eInt .i64 (0 : Int)))] ?_
  refine C_cut (fun T H => ∃ i5 : Int, Has T [(0, (eL e_api_Value a0)), (1, (eL e_api_Value b1)), (5, (eInt .i64 i5))] ∧ Owns ⟨H0, [], []⟩ H [] ∧ ref06_Same_h2 a0 b1 i5 = some r) ?_ ⟨(0 : Int), .eq (by kernel_rfl), hO, h0⟩
  clear hO h0
  rintro T H ⟨i5, hT, hO, h0⟩
  refine C_has hT ?_
  clear hT
  unfold ref06_Same_h2 at h0
  obtain ⟨rr0, hl0, h0⟩ := bindE h0
  refine C_loopS (by kernel_rfl) (fun (s : Int) T H => Has T [(0, (eL e_api_Value a0)), (1, (eL e_api_Value b1)), (5, (eInt .i64 s))] ∧ Owns ⟨H0, [], []⟩ H []) hl0 ⟨.eq (by kernel_rfl), hO⟩ ?_
  clear hO
  rintro k0 s out1 T H ⟨hT, hO⟩ h1 ho0
  obtain ⟨i5, rfl⟩ : ∃ x, x = s := ⟨_, rfl⟩
  replace h1 : ref06_Same_l2 a0 b1 i5 = some out1 := h1
  refine C_has hT ?_
  clear hT
  unfold ref06_Same_l2 at h1
  refine C_sq ?_
  refine S_al ttOk 4 [] [(14, (eBool (decide (i5 < ((List.length a0 : Nat) : Int)))))] ?_
  refine C_cd h1 (fun h1 => ?_) (fun h1 => ?_)
  · refine C_sk ?_
    refine E_tn [(0, (eL e_api_Value a0)), (1, (eL e_api_Value b1)), (5, (eInt .i64 i5))] ?_
    refine C_sq ?_
    refine C_bk 1 ?_
    refine C_sq ?_
    refine C_dg (plOf [20, 24]) ttOk 9 ?_
    obtain ⟨c3, h1⟩ := asrtE h1
    obtain ⟨c4, h1⟩ := asrtE h1
    refine D_all (Ds := [0 ≤ i5 ∧ i5 < ((List.length a0 : Nat) : Int), 0 ≤ i5 ∧ i5 < ((List.length b1 : Nat) : Int)]) (by kernel_rfl) ⟨c3, c4, trivial⟩ ?_
    refine E_ad [] [(25, (eBool (!((decide (((List.getD a0 (Int.toNat i5) default).Kind) = ((List.getD b1 (Int.toNat i5) default).Kind))) && ((decide (((List.getD a0 (Int.toNat i5) default).Num) = ((List.getD b1 (Int.toNat i5) default).Num))) && ((strEq ((List.getD a0 (Int.toNat i5) default).Text) ((List.getD b1 (Int.toNat i5) default).Text)) && true))))))] ?_
    refine C_cd h1 (fun h1 => ?_) (fun h1 => ?_)
    · refine S_tn ttOk 1 [(4, (eBool false))] ?_
      refine C_rt ?_
      obtain rfl := Option.some.inj h1
      obtain rfl : _ = rr0 := ho0
      replace h0 : some false = some r := h0
      obtain rfl := Option.some.inj h0
      exact E_done (blockA_ret (thenA_ret (thenA_ret (blockA_ret (thenA_ret (Q_ret (x := (eBool false)) (by kernel_rfl) (SubV.refl _) ⟨rfl, hO.out⟩))))))
    refine C_sk ?_
    refine E_hk [(0, (eL e_api_Value a0)), (1, (eL e_api_Value b1)), (5, (eInt .i64 i5))] ?_
    refine E_done (blockA_normal (thenA_normal (?_)))
    refine C_rg ttOk 3 ?_
    refine R_al ?_
    exact E_done (thenA_normal (⟨rfl, IntKind.i64.wrap (i5 + (1 : Int)), (Option.some.inj h1).symm, .eq (by kernel_rfl), hO⟩))
  refine C_ex 0 ?_
  obtain rfl := Option.some.inj h1
  obtain rfl : _ = rr0 := ho0
  replace h0 : ref06_Same_j1  = some r := h0
  exact E_done (thenA_exit (thenA_exit (blockA_hit (thenA_normal (⟨rfl, .eq (by kernel_rfl), hO, h0⟩)))))

theorem w_ref10_Rows (l0 : (List api_Edge)) (r : (List (List api_Value))) (h0 : s_ref10_Rows l0 = some r) : Fine Try.prog 45 [(eL e_api_Edge l0)] (eL (eL e_api_Value) r) := by
  intro H0
  refine F_wk Try.func45 ?_
  have hO := Owns.start H0
  unfold s_ref10_Rows at h0
  refine S_al ttOk 1 [] [] ?_
  refine C_sq ?_
  refine C_rg ttOk 2 ?_
  refine R_bsl (xs := []) (k := 1) (by kernel_rfl) (by kernel_rfl) ?_
  refine R_al ?_
  refine E_ad [] [(3, (.sl true 0 (fun _ => .bad)))] ?_
  refine C_sj (fun T H => ∃ rows3 : List (List api_Value), ∃ lo1 : Nat, Has T [(3, (.msl 1 lo1 0 (List.length rows3)))] ∧ Owns ⟨H0, [], []⟩ H [(lo1, 1, List.map (eL e_api_Value) rows3)] ∧ ref10_Rows_j1 rows3 = some r) ?_ ?_
  · clear hO h0
    rintro T H ⟨rows3, lo1, hT, hO, h0⟩
    refine C_has hT ?_
    clear hT
    unfold ref10_Rows_j1 at h0
    refine S_tn ttOk 2 [(2, (.msl 1 lo1 0 (List.length rows3)))] ?_
    refine C_rt ?_
    refine E_hk [(2, (.msl 1 lo1 0 (List.length rows3)))] ?_
    refine E_freezeO (en := (eL e_api_Value)) rows3 0 0 2 1 lo1 (List.length rows3) hO (by kernel_rfl) (by kernel_rfl) (by kernel_rfl) (L' := []) (by kernel_rfl) ?_
    intro H2 hO
    obtain rfl := Option.some.inj h0
    exact E_done (Q_ret (x := (eL (eL e_api_Value) rows3)) (by kernel_rfl) (SubV.refl _) ⟨rfl, hO.out⟩)
  refine S_al ttOk 1 [] [(4, (eInt .i64 (0 : Int)))] ?_
  refine C_bk 0 ?_
  refine C_hk [(0, (eL e_api_Edge l0)), (3, (.sl true 0 (fun _ => .bad))), (4, (eInt .i64 (0 : Int)))] ?_
  refine C_ownO (el := (fun _ => .bad)) 1 3 1 hO (by kernel_rfl) ?_
  intro lo31 H32 hO
  refine C_cut (fun T H => ∃ rows3 : List (List api_Value), ∃ i4 : Int, ∃ lo4 : Nat, Has T [(0, (eL e_api_Edge l0)), (3, (.msl 1 lo4 0 (List.length rows3))), (4, (eInt .i64 i4))] ∧ Owns ⟨H0, [], []⟩ H [(lo4, 1, List.map (eL e_api_Value) rows3)] ∧ ref10_Rows_h2 l0 rows3 i4 = some r) ?_ ⟨([] : List (List api_Value)), (0 : Int), lo31, .eq (by kernel_rfl), hO, h0⟩
  clear hO h0
  rintro T H ⟨rows3, i4, lo4, hT, hO, h0⟩
  refine C_has hT ?_
  clear hT
  unfold ref10_Rows_h2 at h0
  obtain ⟨rr0, hl0, h0⟩ := bindE h0
  refine C_loopS (by kernel_rfl) (fun (s : List (List api_Value) × Int) T H => ∃ lo4 : Nat, Has T [(0, (eL e_api_Edge l0)), (3, (.msl 1 lo4 0 (List.length s.1))), (4, (eInt .i64 s.2))] ∧ Owns ⟨H0, [], []⟩ H [(lo4, 1, List.map (eL e_api_Value) s.1)]) hl0 ⟨lo4, .eq (by kernel_rfl), hO⟩ ?_
  clear hO
  rintro k0 s out1 T H ⟨lo4, hT, hO⟩ h1 ho0
  obtain ⟨rows3, i4⟩ := s
  replace h1 : ref10_Rows_l2 l0 rows3 i4 = some out1 := h1
  dsimp only at hT
  refine C_has hT ?_
  clear hT
  unfold ref10_Rows_l2 at h1
  refine C_sq ?_
  refine S_al ttOk 4 [] [(11, (eBool (decide (i4 < ((List.length l0 : Nat) : Int)))))] ?_
  refine C_cd h1 (fun h1 => ?_) (fun h1 => ?_)
  · refine C_sk ?_
    refine E_tn [(0, (eL e_api_Edge l0)), (3, (.msl 1 lo4 0 (List.length rows3))), (4, (eInt .i64 i4))] ?_
    refine C_sj (fun T H => ∃ rows3 : List (List api_Value), ∃ lo6 : Nat, Has T [(0, (eL e_api_Edge l0)), (3, (.msl 1 lo6 0 (List.length rows3))), (4, (eInt .i64 i4))] ∧ Owns ⟨H0, [], []⟩ H [(lo6, 1, List.map (eL e_api_Value) rows3)] ∧ ref10_Rows_j3 l0 rows3 i4 = some out1) ?_ ?_
    · clear hO h1
      rintro T H ⟨rows3, lo6, hT, hO, h1⟩
      refine C_has hT ?_
      clear hT
      unfold ref10_Rows_j3 at h1
      refine C_rg ttOk 3 ?_
      refine R_al ?_
      exact E_done (thenA_normal (⟨rfl, (rows3, IntKind.i64.wrap (i4 + (1 : Int))), (Option.some.inj h1).symm, lo6, .eq (by kernel_rfl), hO⟩))
    refine C_bk 1 ?_
    refine S_al ttOk 1 [] [(5, (eInt .i64 (0 : Int)))] ?_
    refine C_sj (fun T H => ∃ rows3 : List (List api_Value), ∃ at5 : Int, ∃ lo7 : Nat, Has T [(0, (eL e_api_Edge l0)), (3, (.msl 1 lo7 0 (List.length rows3))), (4, (eInt .i64 i4)), (5, (eInt .i64 at5))] ∧ Owns ⟨H0, [], []⟩ H [(lo7, 1, List.map (eL e_api_Value) rows3)] ∧ ref10_Rows_j4 l0 rows3 i4 at5 = some out1) ?_ ?_
    · clear hO h1
      rintro T H ⟨rows3, at5, lo7, hT, hO, h1⟩
      refine C_has hT ?_
      clear hT
      unfold ref10_Rows_j4 at h1
      refine C_sq ?_
      refine C_sq ?_
      obtain ⟨c8, h1⟩ := asrtE h1
      obtain ⟨c9, h1⟩ := asrtE h1
      obtain ⟨x10, hx11, h1⟩ := bindE h1
      refine C_dg (plOf [46]) ttOk 16 ?_
      refine D_mono (K := fun T H => Has (lift T) [(0, (eL e_api_Edge l0)), (3, (.msl 1 lo7 0 (List.length rows3))), (4, (eInt .i64 i4)), (5, (eInt .i64 at5)), (48, (eBool ((decide (at5 < ((List.length rows3 : Nat) : Int))) && x10)))] ∧ Owns ⟨H0, [], []⟩ H [(lo7, 1, List.map (eL e_api_Value) rows3)]) ?_ ?_
      · refine D_pu 5 ?_
        refine D_split (t := 37) (e := decide (at5 < ((List.length rows3 : Nat) : Int))) (by kernel_rfl) (fun hg12 => ?_) (fun hg12 => ?_)
        · refine D_ps 8 [0 ≤ at5 ∧ at5 < ((List.length rows3 : Nat) : Int)] ⟨(c8 (by first | (simp only [hg12, Bool.not_true, Bool.not_false, Bool.true_and, Bool.and_true, Bool.false_and, Bool.and_false, Bool.or_true, Bool.true_or, Bool.or_false, Bool.false_or, cond_true, cond_false]; done) | simp [hg12])), trivial⟩ ?_
          refine D_loadV 0 lo7 1 (0 + Int.toNat at5) (eL e_api_Value (List.getD rows3 (Int.toNat at5) default)) (eL e_api_Value (List.getD rows3 (Int.toNat at5) default)) (List.map (eL e_api_Value) rows3) (by kernel_rfl) (by kernel_rfl) (by kernel_rfl) hO (by kernel_rfl) (ownGet (c8 (by first | (simp only [hg12, Bool.not_true, Bool.not_false, Bool.true_and, Bool.and_true, Bool.false_and, Bool.and_false, Bool.or_true, Bool.true_or, Bool.or_false, Bool.false_or, cond_true, cond_false]; done) | simp [hg12]))) ?_
          refine D_ps 14 [0 ≤ i4 ∧ i4 < ((List.length l0 : Nat) : Int)] ⟨(c9 (by first | (simp only [hg12, Bool.not_true, Bool.not_false, Bool.true_and, Bool.and_true, Bool.false_and, Bool.and_false, Bool.or_true, Bool.true_or, Bool.or_false, Bool.false_or, cond_true, cond_false]; done) | simp [hg12])), trivial⟩ ?_
          refine D_callV 48 [(eL e_api_Value (List.getD rows3 (Int.toNat at5) default)), (eL e_api_Value ((List.getD l0 (Int.toNat i4) default).Row))] (eBool x10) (by kernel_rfl) (by kernel_rfl) (w_ref06_Same (List.getD rows3 (Int.toNat at5) default) ((List.getD l0 (Int.toNat i4) default).Row) _ (gcallE hx11 (by first | (simp only [hg12, Bool.not_true, Bool.not_false, Bool.true_and, Bool.and_true, Bool.false_and, Bool.and_false, Bool.or_true, Bool.true_or, Bool.or_false, Bool.false_or, cond_true, cond_false]; done) | simp [hg12]))) hO ?_
          intro H hO
          refine D_al ?_
          exact ⟨⟨[(0, (eL e_api_Edge l0)), (3, (.msl 1 lo7 0 (List.length rows3))), (4, (eInt .i64 i4)), (5, (eInt .i64 at5)), (48, (eBool x10))], by kernel_rfl, rfl, ⟨SubV.refl _, SubV.refl _, SubV.refl _, SubV.refl _, SubV.eq (by first | (simp only [eBool, hg12, Bool.not_true, Bool.not_false, Bool.true_and, Bool.and_true, Bool.false_and, Bool.and_false, Bool.or_true, Bool.true_or, Bool.or_false, Bool.false_or, cond_true, cond_false]; done) | simp [eBool, hg12]), trivial⟩⟩, hO⟩
        refine D_al ?_
        exact ⟨⟨[(0, (eL e_api_Edge l0)), (3, (.msl 1 lo7 0 (List.length rows3))), (4, (eInt .i64 i4)), (5, (eInt .i64 at5)), (48, (eBool false))], by kernel_rfl, rfl, ⟨SubV.refl _, SubV.refl _, SubV.refl _, SubV.refl _, SubV.eq (by first | (simp only [eBool, hg12, Bool.not_true, Bool.not_false, Bool.true_and, Bool.and_true, Bool.false_and, Bool.and_false, Bool.or_true, Bool.true_or, Bool.or_false, Bool.false_or, cond_true, cond_false]; done) | simp [eBool, hg12]), trivial⟩⟩, hO⟩
      · rintro T H ⟨hT, hO⟩
        refine E_has hT ?_
        clear hT
        refine E_done (thenA_normal ?_)
        refine C_cd h1 (fun h1 => ?_) (fun h1 => ?_)
        · refine C_ex 1 ?_
          exact E_done (thenA_exit (blockA_hit (thenA_normal (⟨rfl, rows3, lo7, .eq (by kernel_rfl), hO, h1⟩))))
        refine C_sk ?_
        refine E_tn [(0, (eL e_api_Edge l0)), (3, (.msl 1 lo7 0 (List.length rows3))), (4, (eInt .i64 i4)), (5, (eInt .i64 at5))] ?_
        refine C_sq ?_
        refine C_rg ttOk 6 ?_
        refine R_bsl (xs := []) (k := 1) (by kernel_rfl) (by kernel_rfl) ?_
        obtain ⟨c14, h1⟩ := asrtE h1
        refine R_ps 4 [0 ≤ at5 ∧ at5 ≤ ((List.length rows3 : Nat) : Int)] ⟨c14, trivial⟩ ?_
        obtain ⟨c16, h1⟩ := asrtE h1
        refine R_appNL (e := (eL e_api_Value)) (List.take (Int.toNat at5) rows3) (fun _ => .bad) 1 24 (.msl 1 lo7 0 (Int.toNat at5)) (fun lo15 => [(lo7, 1, List.map (eL e_api_Value) rows3), (lo15, 1, List.map (eL e_api_Value) (List.take (Int.toNat at5) rows3))]) (by kernel_rfl) (by kernel_rfl) hO (appX_ownTake hO 0 (by kernel_rfl) (Int.toNat_le.2 (And.right c14))) c16 (fun _ => by kernel_rfl) ?_
        intro lo15 H hO
        refine R_al ?_
        refine E_ad [] [(6, (.msl 1 lo15 0 (List.length (List.take (Int.toNat at5) rows3))))] ?_
        refine C_sq ?_
        refine C_rg ttOk 9 ?_
        obtain ⟨c17, h1⟩ := asrtE h1
        refine R_ps 6 [0 ≤ i4 ∧ i4 < ((List.length l0 : Nat) : Int)] ⟨c17, trivial⟩ ?_
        refine R_bsl (xs := [(eL e_api_Value ((List.getD l0 (Int.toNat i4) default).Row))]) (k := 1) (by kernel_rfl) (by kernel_rfl) ?_
        obtain ⟨c19, h1⟩ := asrtE h1
        refine R_appOL (e := (eL e_api_Value)) (List.take (Int.toNat at5) rows3) ([(List.getD l0 (Int.toNat i4) default).Row]) 1 lo15 1 24 (frozenOf [(eL e_api_Value ((List.getD l0 (Int.toNat i4) default).Row))]) (fun lo18 => [(lo7, 1, List.map (eL e_api_Value) rows3), (lo18, 1, List.map (eL e_api_Value) ((List.take (Int.toNat at5) rows3) ++ ([(List.getD l0 (Int.toNat i4) default).Row])))]) (by kernel_rfl) (by kernel_rfl) hO (by kernel_rfl) (by kernel_rfl) c19 (fun _ => by kernel_rfl) ?_
        intro lo18 H hO
        refine R_al ?_
        refine E_ad [6] [(6, (.msl 1 lo18 0 (List.length ((List.take (Int.toNat at5) rows3) ++ ([(List.getD l0 (Int.toNat i4) default).Row])))))] ?_
        refine C_rg ttOk 6 ?_
        obtain ⟨c20, h1⟩ := asrtE h1
        refine R_ps 4 [0 ≤ at5 ∧ at5 ≤ ((List.length rows3 : Nat) : Int)] ⟨c20, trivial⟩ ?_
        obtain ⟨c22, h1⟩ := asrtE h1
        refine R_appOL (e := (eL e_api_Value)) ((List.take (Int.toNat at5) rows3) ++ ([(List.getD l0 (Int.toNat i4) default).Row])) (List.drop (Int.toNat at5) rows3) 1 lo18 1 24 (.msl 1 lo7 (0 + Int.toNat at5) (List.length rows3 - Int.toNat at5)) (fun lo21 => [(lo7, 1, List.map (eL e_api_Value) rows3), (lo21, 1, List.map (eL e_api_Value) (((List.take (Int.toNat at5) rows3) ++ ([(List.getD l0 (Int.toNat i4) default).Row])) ++ (List.drop (Int.toNat at5) rows3)))]) (by kernel_rfl) (by kernel_rfl) hO (by kernel_rfl) (appX_ownDrop hO 0 (by kernel_rfl) rfl (Int.toNat_le.2 (And.right c20))) c22 (fun _ => by kernel_rfl) ?_
        intro lo21 H hO
        refine R_al ?_
        replace hO := hO.pick (L' := [(lo21, 1, List.map (eL e_api_Value) (((List.take (Int.toNat at5) rows3) ++ ([(List.getD l0 (Int.toNat i4) default).Row])) ++ (List.drop (Int.toNat at5) rows3)))]) [1] (by decide) (by kernel_rfl)
        exact E_done (blockA_normal (thenA_normal (⟨rfl, ((List.take (Int.toNat at5) rows3) ++ ([(List.getD l0 (Int.toNat i4) default).Row])) ++ (List.drop (Int.toNat at5) rows3), lo21, .eq (by kernel_rfl), hO, h1⟩)))
    refine C_bk 2 ?_
    refine C_hk [(0, (eL e_api_Edge l0)), (3, (.msl 1 lo4 0 (List.length rows3))), (4, (eInt .i64 i4)), (5, (eInt .i64 (0 : Int)))] ?_
    refine C_cut (fun T H => ∃ rows3 : List (List api_Value), ∃ at5 : Int, ∃ lo24 : Nat, Has T [(0, (eL e_api_Edge l0)), (3, (.msl 1 lo24 0 (List.length rows3))), (4, (eInt .i64 i4)), (5, (eInt .i64 at5))] ∧ Owns ⟨H0, [], []⟩ H [(lo24, 1, List.map (eL e_api_Value) rows3)] ∧ ref10_Rows_h5 l0 rows3 i4 at5 = some out1) ?_ ⟨rows3, (0 : Int), lo4, .eq (by kernel_rfl), hO, h1⟩
    clear hO h1
    rintro T H ⟨rows3, at5, lo24, hT, hO, h1⟩
    refine C_has hT ?_
    clear hT
    unfold ref10_Rows_h5 at h1
    obtain ⟨rr1, hl1, h1⟩ := bindE h1
    refine C_loopS (by kernel_rfl) (fun (s : List (List api_Value) × Int) T H => ∃ lo24 : Nat, Has T [(0, (eL e_api_Edge l0)), (3, (.msl 1 lo24 0 (List.length s.1))), (4, (eInt .i64 i4)), (5, (eInt .i64 s.2))] ∧ Owns ⟨H0, [], []⟩ H [(lo24, 1, List.map (eL e_api_Value) s.1)]) hl1 ⟨lo24, .eq (by kernel_rfl), hO⟩ ?_
    clear hO
    rintro k1 s out2 T H ⟨lo24, hT, hO⟩ h2 ho1
    obtain ⟨rows3, at5⟩ := s
    replace h2 : ref10_Rows_l5 l0 i4 rows3 at5 = some out2 := h2
    dsimp only at hT
    refine C_has hT ?_
    clear hT
    unfold ref10_Rows_l5 at h2
    refine C_sq ?_
    refine C_sq ?_
    obtain ⟨c25, h2⟩ := asrtE h2
    obtain ⟨c26, h2⟩ := asrtE h2
    obtain ⟨x27, hx28, h2⟩ := bindE h2
    refine C_dg (plOf [27]) ttOk 17 ?_
    refine D_mono (K := fun T H => Has (lift T) [(0, (eL e_api_Edge l0)), (3, (.msl 1 lo24 0 (List.length rows3))), (4, (eInt .i64 i4)), (5, (eInt .i64 at5)), (30, (eBool ((decide (at5 < ((List.length rows3 : Nat) : Int))) && (decide (x27 < (0 : Int))))))] ∧ Owns ⟨H0, [], []⟩ H [(lo24, 1, List.map (eL e_api_Value) rows3)]) ?_ ?_
    · refine D_pu 5 ?_
      refine D_split (t := 18) (e := decide (at5 < ((List.length rows3 : Nat) : Int))) (by kernel_rfl) (fun hg29 => ?_) (fun hg29 => ?_)
      · refine D_ps 8 [0 ≤ at5 ∧ at5 < ((List.length rows3 : Nat) : Int)] ⟨(c25 (by first | (simp only [hg29, Bool.not_true, Bool.not_false, Bool.true_and, Bool.and_true, Bool.false_and, Bool.and_false, Bool.or_true, Bool.true_or, Bool.or_false, Bool.false_or, cond_true, cond_false]; done) | simp [hg29])), trivial⟩ ?_
        refine D_loadV 0 lo24 1 (0 + Int.toNat at5) (eL e_api_Value (List.getD rows3 (Int.toNat at5) default)) (eL e_api_Value (List.getD rows3 (Int.toNat at5) default)) (List.map (eL e_api_Value) rows3) (by kernel_rfl) (by kernel_rfl) (by kernel_rfl) hO (by kernel_rfl) (ownGet (c25 (by first | (simp only [hg29, Bool.not_true, Bool.not_false, Bool.true_and, Bool.and_true, Bool.false_and, Bool.and_false, Bool.or_true, Bool.true_or, Bool.or_false, Bool.false_or, cond_true, cond_false]; done) | simp [hg29]))) ?_
        refine D_ps 14 [0 ≤ i4 ∧ i4 < ((List.length l0 : Nat) : Int)] ⟨(c26 (by first | (simp only [hg29, Bool.not_true, Bool.not_false, Bool.true_and, Bool.and_true, Bool.false_and, Bool.and_false, Bool.or_true, Bool.true_or, Bool.or_false, Bool.false_or, cond_true, cond_false]; done) | simp [hg29])), trivial⟩ ?_
        refine D_callV 68 [(eL e_api_Value (List.getD rows3 (Int.toNat at5) default)), (eL e_api_Value ((List.getD l0 (Int.toNat i4) default).Row))] (eInt .i64 x27) (by kernel_rfl) (by kernel_rfl) (w_ref06_Compare (List.getD rows3 (Int.toNat at5) default) ((List.getD l0 (Int.toNat i4) default).Row) _ (gcallE hx28 (by first | (simp only [hg29, Bool.not_true, Bool.not_false, Bool.true_and, Bool.and_true, Bool.false_and, Bool.and_false, Bool.or_true, Bool.true_or, Bool.or_false, Bool.false_or, cond_true, cond_false]; done) | simp [hg29]))) hO ?_
        intro H hO
        refine D_al ?_
        exact ⟨⟨[(0, (eL e_api_Edge l0)), (3, (.msl 1 lo24 0 (List.length rows3))), (4, (eInt .i64 i4)), (5, (eInt .i64 at5)), (30, (eBool (decide (x27 < (0 : Int)))))], by kernel_rfl, rfl, ⟨SubV.refl _, SubV.refl _, SubV.refl _, SubV.refl _, SubV.eq (by first | (simp only [eBool, hg29, Bool.not_true, Bool.not_false, Bool.true_and, Bool.and_true, Bool.false_and, Bool.and_false, Bool.or_true, Bool.true_or, Bool.or_false, Bool.false_or, cond_true, cond_false]; done) | simp [eBool, hg29]), trivial⟩⟩, hO⟩
      refine D_al ?_
      exact ⟨⟨[(0, (eL e_api_Edge l0)), (3, (.msl 1 lo24 0 (List.length rows3))), (4, (eInt .i64 i4)), (5, (eInt .i64 at5)), (30, (eBool false))], by kernel_rfl, rfl, ⟨SubV.refl _, SubV.refl _, SubV.refl _, SubV.refl _, SubV.eq (by first | (simp only [eBool, hg29, Bool.not_true, Bool.not_false, Bool.true_and, Bool.and_true, Bool.false_and, Bool.and_false, Bool.or_true, Bool.true_or, Bool.or_false, Bool.false_or, cond_true, cond_false]; done) | simp [eBool, hg29]), trivial⟩⟩, hO⟩
    · rintro T H ⟨hT, hO⟩
      refine E_has hT ?_
      clear hT
      refine E_done (thenA_normal ?_)
      refine C_cd h2 (fun h2 => ?_) (fun h2 => ?_)
      · refine C_sk ?_
        refine E_tn [(0, (eL e_api_Edge l0)), (3, (.msl 1 lo24 0 (List.length rows3))), (4, (eInt .i64 i4)), (5, (eInt .i64 at5))] ?_
        refine C_bk 3 ?_
        refine C_rg ttOk 3 ?_
        refine R_al ?_
        exact E_done (blockA_normal (thenA_normal (⟨rfl, (rows3, IntKind.i64.wrap (at5 + (1 : Int))), (Option.some.inj h2).symm, lo24, .eq (by kernel_rfl), hO⟩)))
      refine C_ex 2 ?_
      obtain rfl := Option.some.inj h2
      obtain rfl : _ = rr1 := ho1
      replace h1 : ref10_Rows_j4 l0 rows3 i4 at5 = some out1 := h1
      exact E_done (thenA_exit (thenA_exit (blockA_hit (thenA_normal (⟨rfl, rows3, at5, lo24, .eq (by kernel_rfl), hO, h1⟩)))))
  refine C_ex 0 ?_
  obtain rfl := Option.some.inj h1
  obtain rfl : _ = rr0 := ho0
  replace h0 : ref10_Rows_j1 rows3 = some r := h0
  exact E_done (thenA_exit (thenA_exit (blockA_hit (thenA_normal (⟨rfl, rows3, lo4, .eq (by kernel_rfl), hO, h0⟩)))))

theorem w_ref10_Jumps (l0 : (List api_Edge)) (r1 : (List api_Value)) (r : (List api_Jump)) (h0 : s_ref10_Jumps l0 r1 = some r) : Fine Try.prog 19 [(eL e_api_Edge l0), (eL e_api_Value r1)] (eL e_api_Jump r) := by
  intro H0
  refine F_wk Try.func19 ?_
  have hO := Owns.start H0
  unfold s_ref10_Jumps at h0
  refine S_al ttOk 1 [] [] ?_
  refine C_sq ?_
  refine C_rg ttOk 2 ?_
  refine R_bsl (xs := []) (k := 2) (by kernel_rfl) (by kernel_rfl) ?_
  refine R_al ?_
  refine E_ad [] [(5, (.sl true 0 (fun _ => .bad)))] ?_
  refine C_sj (fun T H => ∃ f5 : List api_Jump, ∃ lo1 : Nat, Has T [(5, (.msl 2 lo1 0 (List.length f5)))] ∧ Owns ⟨H0, [], []⟩ H [(lo1, 2, List.map e_api_Jump f5)] ∧ ref10_Jumps_j1 f5 = some r) ?_ ?_
  · clear hO h0
    rintro T H ⟨f5, lo1, hT, hO, h0⟩
    refine C_has hT ?_
    clear hT
    unfold ref10_Jumps_j1 at h0
    refine S_tn ttOk 2 [(4, (.msl 2 lo1 0 (List.length f5)))] ?_
    refine C_rt ?_
    refine E_hk [(4, (.msl 2 lo1 0 (List.length f5)))] ?_
    refine E_freezeO (en := e_api_Jump) f5 0 0 4 2 lo1 (List.length f5) hO (by kernel_rfl) (by kernel_rfl) (by kernel_rfl) (L' := []) (by kernel_rfl) ?_
    intro H2 hO
    obtain rfl := Option.some.inj h0
    exact E_done (Q_ret (x := (eL e_api_Jump f5)) (by kernel_rfl) (SubV.refl _) ⟨rfl, hO.out⟩)
  refine S_al ttOk 1 [] [(6, (eInt .i64 (0 : Int)))] ?_
  refine C_bk 0 ?_
  refine C_hk [(0, (eL e_api_Edge l0)), (1, (eL e_api_Value r1)), (5, (.sl true 0 (fun _ => .bad))), (6, (eInt .i64 (0 : Int)))] ?_
  refine C_ownO (el := (fun _ => .bad)) 2 5 2 hO (by kernel_rfl) ?_
  intro lo16 H17 hO
  refine C_cut (fun T H => ∃ f5 : List api_Jump, ∃ i6 : Int, ∃ lo4 : Nat, Has T [(0, (eL e_api_Edge l0)), (1, (eL e_api_Value r1)), (5, (.msl 2 lo4 0 (List.length f5))), (6, (eInt .i64 i6))] ∧ Owns ⟨H0, [], []⟩ H [(lo4, 2, List.map e_api_Jump f5)] ∧ ref10_Jumps_h2 l0 r1 f5 i6 = some r) ?_ ⟨([] : List api_Jump), (0 : Int), lo16, .eq (by kernel_rfl), hO, h0⟩
  clear hO h0
  rintro T H ⟨f5, i6, lo4, hT, hO, h0⟩
  refine C_has hT ?_
  clear hT
  unfold ref10_Jumps_h2 at h0
  obtain ⟨rr0, hl0, h0⟩ := bindE h0
  refine C_loopS (by kernel_rfl) (fun (s : List api_Jump × Int) T H => ∃ lo4 : Nat, Has T [(0, (eL e_api_Edge l0)), (1, (eL e_api_Value r1)), (5, (.msl 2 lo4 0 (List.length s.1))), (6, (eInt .i64 s.2))] ∧ Owns ⟨H0, [], []⟩ H [(lo4, 2, List.map e_api_Jump s.1)]) hl0 ⟨lo4, .eq (by kernel_rfl), hO⟩ ?_
  clear hO
  rintro k0 s out1 T H ⟨lo4, hT, hO⟩ h1 ho0
  obtain ⟨f5, i6⟩ := s
  replace h1 : ref10_Jumps_l2 l0 r1 f5 i6 = some out1 := h1
  dsimp only at hT
  refine C_has hT ?_
  clear hT
  unfold ref10_Jumps_l2 at h1
  refine C_sq ?_
  refine S_al ttOk 4 [] [(11, (eBool (decide (i6 < ((List.length l0 : Nat) : Int)))))] ?_
  refine C_cd h1 (fun h1 => ?_) (fun h1 => ?_)
  · refine C_sk ?_
    refine E_tn [(0, (eL e_api_Edge l0)), (1, (eL e_api_Value r1)), (5, (.msl 2 lo4 0 (List.length f5))), (6, (eInt .i64 i6))] ?_
    refine C_sj (fun T H => ∃ f5 : List api_Jump, ∃ lo6 : Nat, Has T [(0, (eL e_api_Edge l0)), (1, (eL e_api_Value r1)), (5, (.msl 2 lo6 0 (List.length f5))), (6, (eInt .i64 i6))] ∧ Owns ⟨H0, [], []⟩ H [(lo6, 2, List.map e_api_Jump f5)] ∧ ref10_Jumps_j3 l0 r1 f5 i6 = some out1) ?_ ?_
    · clear hO h1
      rintro T H ⟨f5, lo6, hT, hO, h1⟩
      refine C_has hT ?_
      clear hT
      unfold ref10_Jumps_j3 at h1
      refine C_rg ttOk 3 ?_
      refine R_al ?_
      exact E_done (thenA_normal (⟨rfl, (f5, IntKind.i64.wrap (i6 + (1 : Int))), (Option.some.inj h1).symm, lo6, .eq (by kernel_rfl), hO⟩))
    refine C_bk 1 ?_
    refine C_sq ?_
    refine C_rg ttOk 7 ?_
    obtain ⟨c7, h1⟩ := asrtE h1
    refine R_ps 6 [0 ≤ i6 ∧ i6 < ((List.length l0 : Nat) : Int)] ⟨c7, trivial⟩ ?_
    obtain ⟨x8, hx9, h1⟩ := bindE h1
    refine R_cO 48 [(eL e_api_Value ((List.getD l0 (Int.toNat i6) default).Row)), (eL e_api_Value r1)] (eBool x8) (w_ref06_Same ((List.getD l0 (Int.toNat i6) default).Row) r1 _ hx9) hO ?_
    intro H hO
    refine R_en ?_
    refine E_ad [] [(20, (eBool x8))] ?_
    refine C_cd h1 (fun h1 => ?_) (fun h1 => ?_)
    · refine C_dg (plOf [26, 31]) ttOk 15 ?_
      obtain ⟨c12, h1⟩ := asrtE h1
      obtain ⟨c13, h1⟩ := asrtE h1
      refine D_ps 12 [0 ≤ i6 ∧ i6 < ((List.length l0 : Nat) : Int), 0 ≤ i6 ∧ i6 < ((List.length l0 : Nat) : Int)] ⟨c12, c13, trivial⟩ ?_
      refine D_bsl (xs := [(e_api_Jump (api_Jump.mk ((List.getD l0 (Int.toNat i6) default).At) ((List.getD l0 (Int.toNat i6) default).Net)))]) (k := 2) (by kernel_rfl) (by kernel_rfl) ?_
      obtain ⟨c15, h1⟩ := asrtE h1
      refine D_appOL (e := e_api_Jump) f5 ([api_Jump.mk ((List.getD l0 (Int.toNat i6) default).At) ((List.getD l0 (Int.toNat i6) default).Net)]) 0 lo4 2 16 (frozenOf [(e_api_Jump (api_Jump.mk ((List.getD l0 (Int.toNat i6) default).At) ((List.getD l0 (Int.toNat i6) default).Net)))]) (fun lo14 => [(lo14, 2, List.map e_api_Jump (f5 ++ ([api_Jump.mk ((List.getD l0 (Int.toNat i6) default).At) ((List.getD l0 (Int.toNat i6) default).Net)])))]) (by kernel_rfl) (by kernel_rfl) hO (by kernel_rfl) (by kernel_rfl) c15 (fun _ => by kernel_rfl) ?_
      intro lo14 H hO
      refine D_al ?_
      exact E_done (blockA_normal (thenA_normal (⟨rfl, f5 ++ ([api_Jump.mk ((List.getD l0 (Int.toNat i6) default).At) ((List.getD l0 (Int.toNat i6) default).Net)]), lo14, .eq (by kernel_rfl), hO, h1⟩)))
    refine C_sk ?_
    exact E_done (blockA_normal (thenA_normal (⟨rfl, f5, lo4, .eq (by kernel_rfl), hO, h1⟩)))
  refine C_ex 0 ?_
  obtain rfl := Option.some.inj h1
  obtain rfl : _ = rr0 := ho0
  replace h0 : ref10_Jumps_j1 f5 = some r := h0
  exact E_done (thenA_exit (thenA_exit (blockA_hit (thenA_normal (⟨rfl, f5, lo4, .eq (by kernel_rfl), hO, h0⟩)))))

theorem w_ref10_May (l0 : (List api_Edge)) (r : Bool) (h0 : s_ref10_May l0 = some r) : Fine Try.prog 27 [(eL e_api_Edge l0)] (eBool r) := by
  intro H0
  refine F_wk Try.func27 ?_
  have hO := Owns.start H0
  unfold s_ref10_May at h0
  refine S_al ttOk 1 [] [] ?_
  refine C_sq ?_
  refine S_al ttOk 3 [] [(9, (eBool (decide ((4096 : Int) < ((List.length l0 : Nat) : Int)))))] ?_
  refine C_cd h0 (fun h0 => ?_) (fun h0 => ?_)
  · refine S_tn ttOk 1 [(2, (eBool false))] ?_
    refine C_rt ?_
    obtain rfl := Option.some.inj h0
    exact E_done (thenA_ret (Q_ret (x := (eBool false)) (by kernel_rfl) (SubV.refl _) ⟨rfl, hO.out⟩))
  refine C_sk ?_
  refine E_tn [(0, (eL e_api_Edge l0))] ?_
  refine C_sj (fun T H => Has T [(0, (eL e_api_Edge l0))] ∧ Owns ⟨H0, [], []⟩ H [] ∧ ref10_May_j1 l0 = some r) ?_ ?_
  · clear hO h0
    rintro T H ⟨hT, hO, h0⟩
    refine C_has hT ?_
    clear hT
    unfold ref10_May_j1 at h0
    refine C_sq ?_
    refine C_rg ttOk 3 ?_
    refine R_pu 1 ?_
    obtain ⟨x2, hx3, h0⟩ := bindE h0
    refine R_cO 45 [(eL e_api_Edge l0)] (eL (eL e_api_Value) x2) (w_ref10_Rows l0 _ hx3) hO ?_
    intro H hO
    refine R_al ?_
    refine E_ad [] [(5, (eL (eL e_api_Value) x2))] ?_
    refine C_sj (fun T H => Has T [] ∧ Owns ⟨H0, [], []⟩ H [] ∧ ref10_May_j2  = some r) ?_ ?_
    · clear hO h0
      rintro T H ⟨hT, hO, h0⟩
      refine C_has hT ?_
      clear hT
      unfold ref10_May_j2 at h0
      refine S_tn ttOk 1 [(2, (eBool true))] ?_
      refine C_rt ?_
      obtain rfl := Option.some.inj h0
      exact E_done (Q_ret (x := (eBool true)) (by kernel_rfl) (SubV.refl _) ⟨rfl, hO.out⟩)
    refine S_al ttOk 1 [] [(6, (eInt .i64 (0 : Int)))] ?_
    refine C_bk 2 ?_
    refine C_hk [(0, (eL e_api_Edge l0)), (5, (eL (eL e_api_Value) x2)), (6, (eInt .i64 (0 : Int)))] ?_
    refine C_cut (fun T H => ∃ rows5 : (List (List api_Value)), ∃ i6 : Int, Has T [(0, (eL e_api_Edge l0)), (5, (eL (eL e_api_Value) rows5)), (6, (eInt .i64 i6))] ∧ Owns ⟨H0, [], []⟩ H [] ∧ ref10_May_h3 l0 rows5 i6 = some r) ?_ ⟨x2, (0 : Int), .eq (by kernel_rfl), hO, h0⟩
    clear hO h0
    rintro T H ⟨rows5, i6, hT, hO, h0⟩
    refine C_has hT ?_
    clear hT
    unfold ref10_May_h3 at h0
    obtain ⟨rr0, hl0, h0⟩ := bindE h0
    refine C_loopS (by kernel_rfl) (fun (s : Int) T H => Has T [(0, (eL e_api_Edge l0)), (5, (eL (eL e_api_Value) rows5)), (6, (eInt .i64 s))] ∧ Owns ⟨H0, [], []⟩ H []) hl0 ⟨.eq (by kernel_rfl), hO⟩ ?_
    clear hO
    rintro k0 s out1 T H ⟨hT, hO⟩ h1 ho0
    obtain ⟨i6, rfl⟩ : ∃ x, x = s := ⟨_, rfl⟩
    replace h1 : ref10_May_l3 l0 rows5 i6 = some out1 := h1
    refine C_has hT ?_
    clear hT
    unfold ref10_May_l3 at h1
    refine C_sq ?_
    refine S_al ttOk 4 [] [(78, (eBool (decide (i6 < ((List.length rows5 : Nat) : Int)))))] ?_
    refine C_cd h1 (fun h1 => ?_) (fun h1 => ?_)
    · refine C_sk ?_
      refine E_tn [(0, (eL e_api_Edge l0)), (5, (eL (eL e_api_Value) rows5)), (6, (eInt .i64 i6))] ?_
      refine C_sq ?_
      refine C_bk 3 ?_
      refine C_sq ?_
      refine C_rg ttOk 8 ?_
      obtain ⟨c6, h1⟩ := asrtE h1
      refine R_ps 5 [0 ≤ i6 ∧ i6 < ((List.length rows5 : Nat) : Int)] ⟨c6, trivial⟩ ?_
      obtain ⟨x7, hx8, h1⟩ := bindE h1
      refine R_cO 19 [(eL e_api_Edge l0), (eL e_api_Value (List.getD rows5 (Int.toNat i6) default))] (eL e_api_Jump x7) (w_ref10_Jumps l0 (List.getD rows5 (Int.toNat i6) default) _ hx8) hO ?_
      intro H hO
      refine R_al ?_
      refine E_ad [] [(88, (eBool (decide ((1024 : Int) < ((List.length x7 : Nat) : Int)))))] ?_
      refine C_cd h1 (fun h1 => ?_) (fun h1 => ?_)
      · refine S_tn ttOk 1 [(2, (eBool false))] ?_
        refine C_rt ?_
        obtain rfl := Option.some.inj h1
        obtain rfl : _ = rr0 := ho0
        replace h0 : some false = some r := h0
        obtain rfl := Option.some.inj h0
        exact E_done (blockA_ret (thenA_ret (thenA_ret (blockA_ret (thenA_ret (Q_ret (x := (eBool false)) (by kernel_rfl) (SubV.refl _) ⟨rfl, hO.out⟩))))))
      refine C_sk ?_
      refine E_hk [(0, (eL e_api_Edge l0)), (5, (eL (eL e_api_Value) rows5)), (6, (eInt .i64 i6))] ?_
      refine E_done (blockA_normal (thenA_normal (?_)))
      refine C_rg ttOk 3 ?_
      refine R_al ?_
      exact E_done (thenA_normal (⟨rfl, IntKind.i64.wrap (i6 + (1 : Int)), (Option.some.inj h1).symm, .eq (by kernel_rfl), hO⟩))
    refine C_ex 2 ?_
    obtain rfl := Option.some.inj h1
    obtain rfl : _ = rr0 := ho0
    replace h0 : ref10_May_j2  = some r := h0
    exact E_done (thenA_exit (thenA_exit (blockA_hit (thenA_normal (⟨rfl, .eq (by kernel_rfl), hO, h0⟩)))))
  refine S_al ttOk 1 [] [(3, (eInt .i64 (0 : Int)))] ?_
  refine C_bk 0 ?_
  refine C_hk [(0, (eL e_api_Edge l0)), (3, (eInt .i64 (0 : Int)))] ?_
  refine C_cut (fun T H => ∃ i3 : Int, Has T [(0, (eL e_api_Edge l0)), (3, (eInt .i64 i3))] ∧ Owns ⟨H0, [], []⟩ H [] ∧ ref10_May_h4 l0 i3 = some r) ?_ ⟨(0 : Int), .eq (by kernel_rfl), hO, h0⟩
  clear hO h0
  rintro T H ⟨i3, hT, hO, h0⟩
  refine C_has hT ?_
  clear hT
  unfold ref10_May_h4 at h0
  obtain ⟨rr0, hl0, h0⟩ := bindE h0
  refine C_loopS (by kernel_rfl) (fun (s : Int) T H => Has T [(0, (eL e_api_Edge l0)), (3, (eInt .i64 s))] ∧ Owns ⟨H0, [], []⟩ H []) hl0 ⟨.eq (by kernel_rfl), hO⟩ ?_
  clear hO
  rintro k0 s out1 T H ⟨hT, hO⟩ h1 ho0
  obtain ⟨i3, rfl⟩ : ∃ x, x = s := ⟨_, rfl⟩
  replace h1 : ref10_May_l4 l0 i3 = some out1 := h1
  refine C_has hT ?_
  clear hT
  unfold ref10_May_l4 at h1
  refine C_sq ?_
  refine S_al ttOk 4 [] [(13, (eBool (decide (i3 < ((List.length l0 : Nat) : Int)))))] ?_
  refine C_cd h1 (fun h1 => ?_) (fun h1 => ?_)
  · refine C_sk ?_
    refine E_tn [(0, (eL e_api_Edge l0)), (3, (eInt .i64 i3))] ?_
    refine C_sj (fun T H => Has T [(0, (eL e_api_Edge l0)), (3, (eInt .i64 i3))] ∧ Owns ⟨H0, [], []⟩ H [] ∧ ref10_May_j5 l0 i3 = some out1) ?_ ?_
    · clear hO h1
      rintro T H ⟨hT, hO, h1⟩
      refine C_has hT ?_
      clear hT
      unfold ref10_May_j5 at h1
      refine C_rg ttOk 3 ?_
      refine R_al ?_
      exact E_done (thenA_normal (⟨rfl, IntKind.i64.wrap (i3 + (1 : Int)), (Option.some.inj h1).symm, .eq (by kernel_rfl), hO⟩))
    refine C_bk 1 ?_
    refine C_sq ?_
    refine C_sq ?_
    obtain ⟨c12, h1⟩ := asrtE h1
    obtain ⟨x13, hx14, h1⟩ := bindE h1
    obtain ⟨c15, h1⟩ := asrtE h1
    obtain ⟨c16, h1⟩ := asrtE h1
    obtain ⟨x17, hx18, h1⟩ := bindE h1
    refine C_dg (plOf [20, 28, 33]) ttOk 23 ?_
    refine D_mono (K := fun T H => Has (lift T) [(0, (eL e_api_Edge l0)), (3, (eInt .i64 i3)), (38, (eBool ((!x13) || (!x17))))] ∧ Owns ⟨H0, [], []⟩ H []) ?_ ?_
    · refine D_ps 5 [0 ≤ i3 ∧ i3 < ((List.length l0 : Nat) : Int)] ⟨c12, trivial⟩ ?_
      refine D_callV 32 [(eL e_api_Value ((List.getD l0 (Int.toNat i3) default).Row))] (eBool x13) (by kernel_rfl) (by kernel_rfl) (w_ref06_May ((List.getD l0 (Int.toNat i3) default).Row) _ hx14) hO ?_
      intro H hO
      refine D_pu 8 ?_
      refine D_split (t := 23) (e := !x13) (by kernel_rfl) (fun hg19 => ?_) (fun hg19 => ?_)
      · refine D_al ?_
        exact ⟨⟨[(0, (eL e_api_Edge l0)), (3, (eInt .i64 i3)), (38, (eBool true))], by kernel_rfl, rfl, ⟨SubV.refl _, SubV.refl _, SubV.eq (by first | (simp only [eBool, hg19, Bool.not_true, Bool.not_false, Bool.true_and, Bool.and_true, Bool.false_and, Bool.and_false, Bool.or_true, Bool.true_or, Bool.or_false, Bool.false_or, cond_true, cond_false]; done) | simp [eBool, hg19]), trivial⟩⟩, hO⟩
      refine D_ps 19 [0 ≤ i3 ∧ i3 < ((List.length l0 : Nat) : Int), 0 ≤ i3 ∧ i3 < ((List.length l0 : Nat) : Int)] ⟨(c15 (by first | (simp only [hg19, Bool.not_true, Bool.not_false, Bool.true_and, Bool.and_true, Bool.false_and, Bool.and_false, Bool.or_true, Bool.true_or, Bool.or_false, Bool.false_or, cond_true, cond_false]; done) | simp [hg19])), (c16 (by first | (simp only [hg19, Bool.not_true, Bool.not_false, Bool.true_and, Bool.and_true, Bool.false_and, Bool.and_false, Bool.or_true, Bool.true_or, Bool.or_false, Bool.false_or, cond_true, cond_false]; done) | simp [hg19])), trivial⟩ ?_
      refine D_bslV (xs := [(e_api_Jump (api_Jump.mk ((List.getD l0 (Int.toNat i3) default).At) ((List.getD l0 (Int.toNat i3) default).Net)))]) (by kernel_rfl) (by kernel_rfl) ?_
      refine D_callV 33 [(frozenOf [(e_api_Jump (api_Jump.mk ((List.getD l0 (Int.toNat i3) default).At) ((List.getD l0 (Int.toNat i3) default).Net)))])] (eBool x17) (by kernel_rfl) (by kernel_rfl) (Fine.sub (w_ref09_May ([api_Jump.mk ((List.getD l0 (Int.toNat i3) default).At) ((List.getD l0 (Int.toNat i3) default).Net)]) _ (gcallE hx18 (by first | (simp only [hg19, Bool.not_true, Bool.not_false, Bool.true_and, Bool.and_true, Bool.false_and, Bool.and_false, Bool.or_true, Bool.true_or, Bool.or_false, Bool.false_or, cond_true, cond_false]; done) | simp [hg19]))) ⟨subLit (l := [api_Jump.mk ((List.getD l0 (Int.toNat i3) default).At) ((List.getD l0 (Int.toNat i3) default).Net)]), trivial⟩) hO ?_
      intro H hO
      refine D_al ?_
      exact ⟨⟨[(0, (eL e_api_Edge l0)), (3, (eInt .i64 i3)), (38, (eBool (!x17)))], by kernel_rfl, rfl, ⟨SubV.refl _, SubV.refl _, SubV.eq (by first | (simp only [eBool, hg19, Bool.not_true, Bool.not_false, Bool.true_and, Bool.and_true, Bool.false_and, Bool.and_false, Bool.or_true, Bool.true_or, Bool.or_false, Bool.false_or, cond_true, cond_false]; done) | simp [eBool, hg19]), trivial⟩⟩, hO⟩
    · rintro T H ⟨hT, hO⟩
      refine E_has hT ?_
      clear hT
      refine E_done (thenA_normal ?_)
      refine C_cd h1 (fun h1 => ?_) (fun h1 => ?_)
      · refine S_tn ttOk 1 [(2, (eBool false))] ?_
        refine C_rt ?_
        obtain rfl := Option.some.inj h1
        obtain rfl : _ = rr0 := ho0
        replace h0 : some false = some r := h0
        obtain rfl := Option.some.inj h0
        exact E_done (thenA_ret (blockA_ret (thenA_ret (thenA_ret (blockA_ret (thenA_ret (Q_ret (x := (eBool false)) (by kernel_rfl) (SubV.refl _) ⟨rfl, hO.out⟩)))))))
      refine C_sk ?_
      refine E_tn [(0, (eL e_api_Edge l0)), (3, (eInt .i64 i3))] ?_
      refine C_sq ?_
      refine S_al ttOk 2 [] [(40, (eBool (decide (i3 = (0 : Int)))))] ?_
      refine C_cd h1 (fun h1 => ?_) (fun h1 => ?_)
      · refine C_ex 1 ?_
        exact E_done (thenA_exit (blockA_hit (thenA_normal (⟨rfl, .eq (by kernel_rfl), hO, h1⟩))))
      refine C_sk ?_
      refine E_tn [(0, (eL e_api_Edge l0)), (3, (eInt .i64 i3))] ?_
      refine C_sq ?_
      refine C_dg (plOf [46, 51]) ttOk 13 ?_
      obtain ⟨c22, h1⟩ := asrtE h1
      obtain ⟨c23, h1⟩ := asrtE h1
      refine D_ps 11 [0 ≤ (IntKind.i64.wrap (i3 - (1 : Int))) ∧ (IntKind.i64.wrap (i3 - (1 : Int))) < ((List.length l0 : Nat) : Int), 0 ≤ i3 ∧ i3 < ((List.length l0 : Nat) : Int)] ⟨c22, c23, trivial⟩ ?_
      obtain ⟨x24, hx25, h1⟩ := bindE h1
      refine D_callO 68 [(eL e_api_Value ((List.getD l0 (Int.toNat (IntKind.i64.wrap (i3 - (1 : Int)))) default).Row)), (eL e_api_Value ((List.getD l0 (Int.toNat i3) default).Row))] (eInt .i64 x24) (by kernel_rfl) (by kernel_rfl) (w_ref06_Compare ((List.getD l0 (Int.toNat (IntKind.i64.wrap (i3 - (1 : Int)))) default).Row) ((List.getD l0 (Int.toNat i3) default).Row) _ hx25) hO ?_
      intro H hO
      refine D_al ?_
      refine E_ad [] [(4, (eInt .i64 x24))] ?_
      refine C_sq ?_
      obtain ⟨c27, h1⟩ := asrtE h1
      obtain ⟨c28, h1⟩ := asrtE h1
      refine C_dg (plOf [64, 69]) ttOk 20 ?_
      refine D_mono (K := fun T H => Has (lift T) [(0, (eL e_api_Edge l0)), (3, (eInt .i64 i3)), (72, (eBool ((decide ((0 : Int) < x24)) || ((decide (x24 = (0 : Int))) && (decide (((List.getD l0 (Int.toNat i3) default).At) ≤ ((List.getD l0 (Int.toNat (IntKind.i64.wrap (i3 - (1 : Int)))) default).At)))))))] ∧ Owns ⟨H0, [], []⟩ H []) ?_ ?_
      · refine D_pu 3 ?_
        refine D_split (t := 55) (e := decide ((0 : Int) < x24)) (by kernel_rfl) (fun hg29 => ?_) (fun hg29 => ?_)
        · refine D_al ?_
          exact ⟨⟨[(0, (eL e_api_Edge l0)), (3, (eInt .i64 i3)), (72, (eBool true))], by kernel_rfl, rfl, ⟨SubV.refl _, SubV.refl _, SubV.eq (by first | (simp only [eBool, hg29, Bool.not_true, Bool.not_false, Bool.true_and, Bool.and_true, Bool.false_and, Bool.and_false, Bool.or_true, Bool.true_or, Bool.or_false, Bool.false_or, cond_true, cond_false]; done) | simp [eBool, hg29]), trivial⟩⟩, hO⟩
        refine D_pu 6 ?_
        refine D_split (t := 58) (e := decide (x24 = (0 : Int))) (by kernel_rfl) (fun hg30 => ?_) (fun hg30 => ?_)
        · refine D_all (Ds := [0 ≤ (IntKind.i64.wrap (i3 - (1 : Int))) ∧ (IntKind.i64.wrap (i3 - (1 : Int))) < ((List.length l0 : Nat) : Int), 0 ≤ i3 ∧ i3 < ((List.length l0 : Nat) : Int)]) (by kernel_rfl) ⟨(c27 (by first | (simp only [hg29, hg30, Bool.not_true, Bool.not_false, Bool.true_and, Bool.and_true, Bool.false_and, Bool.and_false, Bool.or_true, Bool.true_or, Bool.or_false, Bool.false_or, cond_true, cond_false]; done) | simp [hg29, hg30])), (c28 (by first | (simp only [hg29, hg30, Bool.not_true, Bool.not_false, Bool.true_and, Bool.and_true, Bool.false_and, Bool.and_false, Bool.or_true, Bool.true_or, Bool.or_false, Bool.false_or, cond_true, cond_false]; done) | simp [hg29, hg30])), trivial⟩ ?_
          exact ⟨⟨[(0, (eL e_api_Edge l0)), (3, (eInt .i64 i3)), (72, (eBool (decide (((List.getD l0 (Int.toNat i3) default).At) ≤ ((List.getD l0 (Int.toNat (IntKind.i64.wrap (i3 - (1 : Int)))) default).At)))))], by kernel_rfl, rfl, ⟨SubV.refl _, SubV.refl _, SubV.eq (by first | (simp only [eBool, hg29, hg30, Bool.not_true, Bool.not_false, Bool.true_and, Bool.and_true, Bool.false_and, Bool.and_false, Bool.or_true, Bool.true_or, Bool.or_false, Bool.false_or, cond_true, cond_false]; done) | simp [eBool, hg29, hg30]), trivial⟩⟩, hO⟩
        refine D_al ?_
        exact ⟨⟨[(0, (eL e_api_Edge l0)), (3, (eInt .i64 i3)), (72, (eBool false))], by kernel_rfl, rfl, ⟨SubV.refl _, SubV.refl _, SubV.eq (by first | (simp only [eBool, hg29, hg30, Bool.not_true, Bool.not_false, Bool.true_and, Bool.and_true, Bool.false_and, Bool.and_false, Bool.or_true, Bool.true_or, Bool.or_false, Bool.false_or, cond_true, cond_false]; done) | simp [eBool, hg29, hg30]), trivial⟩⟩, hO⟩
      · rintro T H ⟨hT, hO⟩
        refine E_has hT ?_
        clear hT
        refine E_done (thenA_normal ?_)
        refine C_cd h1 (fun h1 => ?_) (fun h1 => ?_)
        · refine S_tn ttOk 1 [(2, (eBool false))] ?_
          refine C_rt ?_
          obtain rfl := Option.some.inj h1
          obtain rfl : _ = rr0 := ho0
          replace h0 : some false = some r := h0
          obtain rfl := Option.some.inj h0
          exact E_done (blockA_ret (thenA_ret (thenA_ret (blockA_ret (thenA_ret (Q_ret (x := (eBool false)) (by kernel_rfl) (SubV.refl _) ⟨rfl, hO.out⟩))))))
        refine C_sk ?_
        exact E_done (blockA_normal (thenA_normal (⟨rfl, .eq (by kernel_rfl), hO, h1⟩)))
  refine C_ex 0 ?_
  obtain rfl := Option.some.inj h1
  obtain rfl : _ = rr0 := ho0
  replace h0 : ref10_May_j1 l0 = some r := h0
  exact E_done (thenA_exit (thenA_exit (blockA_hit (thenA_normal (⟨rfl, .eq (by kernel_rfl), hO, h0⟩)))))

end Go.Abs
namespace Go.Abs
open Go Go.RowKit Go.Proofs
theorem w_ref10_Put (lo0p : Nat) (l0 : (List api_Edge)) (r1 : (List api_Value)) (f2 : (List api_Jump)) (r : (List api_Edge)) (h0 : s_ref10_Put l0 r1 f2 = some r) : FineA Try.prog 29 lo0p 3 (List.map e_api_Edge l0) [(.msl 3 lo0p 0 (List.length l0)), (eL e_api_Value r1), (eL e_api_Jump f2)] (fun lo => .msl 3 lo 0 (List.length r)) (List.map e_api_Edge r) := by
  intro H0 hl0
  refine F_wk Try.func29 ?_
  have hO := Owns.start1 hl0
  clear hl0
  unfold s_ref10_Put at h0
  refine S_al ttOk 1 [] [] ?_
  refine C_sj (fun T H => ∃ l0 : List api_Edge, ∃ lo1 : Nat, Has T [(0, (.msl 3 lo1 0 (List.length l0)))] ∧ Owns ⟨H0, [lo0p], []⟩ H [(lo1, 3, List.map e_api_Edge l0)] ∧ ref10_Put_j1 l0 = some r) ?_ ?_
  · clear hO h0
    rintro T H ⟨l0, lo1, hT, hO, h0⟩
    refine C_has hT ?_
    clear hT
    unfold ref10_Put_j1 at h0
    refine S_tn ttOk 2 [(6, (.msl 3 lo1 0 (List.length l0)))] ?_
    refine C_rt ?_
    obtain rfl := Option.some.inj h0
    exact E_done (Q_ret (x := (.msl 3 lo1 0 (List.length l0))) (by kernel_rfl) (SubV.refl _) ⟨lo1, rfl, hO⟩)
  refine S_al ttOk 1 [] [(7, (eInt .i64 (0 : Int)))] ?_
  refine C_bk 0 ?_
  refine C_hk [(0, (.msl 3 lo0p 0 (List.length l0))), (1, (eL e_api_Value r1)), (2, (eL e_api_Jump f2)), (7, (eInt .i64 (0 : Int)))] ?_
  refine C_cut (fun T H => ∃ l0 : List api_Edge, ∃ i7 : Int, ∃ lo3 : Nat, Has T [(0, (.msl 3 lo3 0 (List.length l0))), (1, (eL e_api_Value r1)), (2, (eL e_api_Jump f2)), (7, (eInt .i64 i7))] ∧ Owns ⟨H0, [lo0p], []⟩ H [(lo3, 3, List.map e_api_Edge l0)] ∧ ref10_Put_h2 l0 r1 f2 i7 = some r) ?_ ⟨l0, (0 : Int), lo0p, .eq (by kernel_rfl), hO, h0⟩
  clear hO h0
  rintro T H ⟨l0, i7, lo3, hT, hO, h0⟩
  refine C_has hT ?_
  clear hT
  unfold ref10_Put_h2 at h0
  obtain ⟨rr0, hl0, h0⟩ := bindE h0
  refine C_loopS (by kernel_rfl) (fun (s : List api_Edge × Int) T H => ∃ lo3 : Nat, Has T [(0, (.msl 3 lo3 0 (List.length s.1))), (1, (eL e_api_Value r1)), (2, (eL e_api_Jump f2)), (7, (eInt .i64 s.2))] ∧ Owns ⟨H0, [lo0p], []⟩ H [(lo3, 3, List.map e_api_Edge s.1)]) hl0 ⟨lo3, .eq (by kernel_rfl), hO⟩ ?_
  clear hO
  rintro k0 s out1 T H ⟨lo3, hT, hO⟩ h1 ho0
  obtain ⟨l0, i7⟩ := s
  replace h1 : ref10_Put_l2 r1 f2 l0 i7 = some out1 := h1
  dsimp only at hT
  refine C_has hT ?_
  clear hT
  unfold ref10_Put_l2 at h1
  refine C_sq ?_
  refine S_al ttOk 4 [] [(11, (eBool (decide (i7 < ((List.length f2 : Nat) : Int)))))] ?_
  refine C_cd h1 (fun h1 => ?_) (fun h1 => ?_)
  · refine C_sk ?_
    refine E_tn [(0, (.msl 3 lo3 0 (List.length l0))), (1, (eL e_api_Value r1)), (2, (eL e_api_Jump f2)), (7, (eInt .i64 i7))] ?_
    refine C_sq ?_
    refine C_bk 1 ?_
    refine C_dg (plOf [22, 27]) ttOk 18 ?_
    refine D_pu 1 ?_
    refine D_bsl (xs := []) (k := 3) (by kernel_rfl) (by kernel_rfl) ?_
    refine D_pu 3 ?_
    obtain ⟨c10, h1⟩ := asrtE h1
    refine D_appNF (e := e_api_Value) r1 (fun _ => .bad) 3 32 (eL e_api_Value r1) (by kernel_rfl) (by kernel_rfl) hO (appX_eL (fun _ => by kernel_rfl)) c10 ?_
    intro H hO
    obtain ⟨c11, h1⟩ := asrtE h1
    obtain ⟨c12, h1⟩ := asrtE h1
    refine D_ps 15 [0 ≤ i7 ∧ i7 < ((List.length f2 : Nat) : Int), 0 ≤ i7 ∧ i7 < ((List.length f2 : Nat) : Int)] ⟨c11, c12, trivial⟩ ?_
    refine D_bsl (xs := [(e_api_Edge (api_Edge.mk r1 ((List.getD f2 (Int.toNat i7) default).At) ((List.getD f2 (Int.toNat i7) default).Net)))]) (k := 3) (by kernel_rfl) (by kernel_rfl) ?_
    obtain ⟨c14, h1⟩ := asrtE h1
    refine D_appOL (e := e_api_Edge) l0 ([api_Edge.mk r1 ((List.getD f2 (Int.toNat i7) default).At) ((List.getD f2 (Int.toNat i7) default).Net)]) 0 lo3 3 40 (frozenOf [(e_api_Edge (api_Edge.mk r1 ((List.getD f2 (Int.toNat i7) default).At) ((List.getD f2 (Int.toNat i7) default).Net)))]) (fun lo13 => [(lo13, 3, List.map e_api_Edge (l0 ++ ([api_Edge.mk r1 ((List.getD f2 (Int.toNat i7) default).At) ((List.getD f2 (Int.toNat i7) default).Net)])))]) (by kernel_rfl) (by kernel_rfl) hO (by kernel_rfl) (by kernel_rfl) c14 (fun _ => by kernel_rfl) ?_
    intro lo13 H hO
    refine D_al ?_
    refine E_hk [(0, (.msl 3 lo13 0 (List.length (l0 ++ ([api_Edge.mk r1 ((List.getD f2 (Int.toNat i7) default).At) ((List.getD f2 (Int.toNat i7) default).Net)]))))), (1, (eL e_api_Value r1)), (2, (eL e_api_Jump f2)), (7, (eInt .i64 i7))] ?_
    refine E_done (blockA_normal (thenA_normal (?_)))
    refine C_rg ttOk 3 ?_
    refine R_al ?_
    exact E_done (thenA_normal (⟨rfl, (l0 ++ ([api_Edge.mk r1 ((List.getD f2 (Int.toNat i7) default).At) ((List.getD f2 (Int.toNat i7) default).Net)]), IntKind.i64.wrap (i7 + (1 : Int))), (Option.some.inj h1).symm, lo13, .eq (by kernel_rfl), hO⟩))
  refine C_ex 0 ?_
  obtain rfl := Option.some.inj h1
  obtain rfl : _ = rr0 := ho0
  replace h0 : ref10_Put_j1 l0 = some r := h0
  exact E_done (thenA_exit (thenA_exit (blockA_hit (thenA_normal (⟨rfl, l0, lo3, .eq (by kernel_rfl), hO, h0⟩)))))

theorem w_ref10_Same (a0 : (List api_Edge)) (b1 : (List api_Edge)) (r : Bool) (h0 : s_ref10_Same a0 b1 = some r) : Fine Try.prog 16 [(eL e_api_Edge a0), (eL e_api_Edge b1)] (eBool r) := by
  intro H0
  refine F_wk Try.func16 ?_
  have hO := Owns.start H0
  unfold s_ref10_Same at h0
  refine S_al ttOk 1 [] [] ?_
  refine C_sq ?_
  refine S_al ttOk 5 [] [(10, (eBool (!decide (((List.length a0 : Nat) : Int) = ((List.length b1 : Nat) : Int)))))] ?_
  refine C_cd h0 (fun h0 => ?_) (fun h0 => ?_)
  · refine S_tn ttOk 1 [(4, (eBool false))] ?_
    refine C_rt ?_
    obtain rfl := Option.some.inj h0
    exact E_done (thenA_ret (Q_ret (x := (eBool false)) (by kernel_rfl) (SubV.refl _) ⟨rfl, hO.out⟩))
  refine C_sk ?_
  refine E_tn [(0, (eL e_api_Edge a0)), (1, (eL e_api_Edge b1))] ?_
  refine C_sj (fun T H => Has T [] ∧ Owns ⟨H0, [], []⟩ H [] ∧ ref10_Same_j1  = some r) ?_ ?_
  · clear hO h0
    rintro T H ⟨hT, hO, h0⟩
    refine C_has hT ?_
    clear hT
    unfold ref10_Same_j1 at h0
    refine S_tn ttOk 1 [(4, (eBool true))] ?_
    refine C_rt ?_
    obtain rfl := Option.some.inj h0
    exact E_done (Q_ret (x := (eBool true)) (by kernel_rfl) (SubV.refl _) ⟨rfl, hO.out⟩)
  refine S_al ttOk 1 [] [(5, (eInt .i64 (0 : Int)))] ?_
  refine C_bk 0 ?_
  refine C_hk [(0, (eL e_api_Edge a0)), (1, (eL e_api_Edge b1)), (5, (eInt .i64 (0 : Int)))] ?_
  refine C_cut (fun T H => ∃ i5 : Int, Has T [(0, (eL e_api_Edge a0)), (1, (eL e_api_Edge b1)), (5, (eInt .i64 i5))] ∧ Owns ⟨H0, [], []⟩ H [] ∧ ref10_Same_h2 a0 b1 i5 = some r) ?_ ⟨(0 : Int), .eq (by kernel_rfl), hO, h0⟩
  clear hO h0
  rintro T H ⟨i5, hT, hO, h0⟩
  refine C_has hT ?_
  clear hT
  unfold ref10_Same_h2 at h0
  obtain ⟨rr0, hl0, h0⟩ := bindE h0
  refine C_loopS (by kernel_rfl) (fun (s : Int) T H => Has T [(0, (eL e_api_Edge a0)), (1, (eL e_api_Edge b1)), (5, (eInt .i64 s))] ∧ Owns ⟨H0, [], []⟩ H []) hl0 ⟨.eq (by kernel_rfl), hO⟩ ?_
  clear hO
  rintro k0 s out1 T H ⟨hT, hO⟩ h1 ho0
  obtain ⟨i5, rfl⟩ : ∃ x, x = s := ⟨_, rfl⟩
  replace h1 : ref10_Same_l2 a0 b1 i5 = some out1 := h1
  refine C_has hT ?_
  clear hT
  unfold ref10_Same_l2 at h1
  refine C_sq ?_
  refine S_al ttOk 4 [] [(14, (eBool (decide (i5 < ((List.length a0 : Nat) : Int)))))] ?_
  refine C_cd h1 (fun h1 => ?_) (fun h1 => ?_)
  · refine C_sk ?_
    refine E_tn [(0, (eL e_api_Edge a0)), (1, (eL e_api_Edge b1)), (5, (eInt .i64 i5))] ?_
    refine C_sq ?_
    refine C_bk 1 ?_
    refine C_sq ?_
    obtain ⟨c3, h1⟩ := asrtE h1
    obtain ⟨c4, h1⟩ := asrtE h1
    obtain ⟨c5, h1⟩ := asrtE h1
    obtain ⟨c6, h1⟩ := asrtE h1
    obtain ⟨c7, h1⟩ := asrtE h1
    obtain ⟨c8, h1⟩ := asrtE h1
    obtain ⟨x9, hx10, h1⟩ := bindE h1
    refine C_dg (plOf [21, 26, 33, 38, 46, 51]) ttOk 38 ?_
    refine D_mono (K := fun T H => Has (lift T) [(0, (eL e_api_Edge a0)), (1, (eL e_api_Edge b1)), (5, (eInt .i64 i5)), (54, (eBool (((!decide (((List.getD a0 (Int.toNat i5) default).At) = ((List.getD b1 (Int.toNat i5) default).At))) || (!decide (((List.getD a0 (Int.toNat i5) default).Net) = ((List.getD b1 (Int.toNat i5) default).Net)))) || (!x9))))] ∧ Owns ⟨H0, [], []⟩ H []) ?_ ?_
    · refine D_ps 12 [0 ≤ i5 ∧ i5 < ((List.length a0 : Nat) : Int), 0 ≤ i5 ∧ i5 < ((List.length b1 : Nat) : Int)] ⟨c3, c4, trivial⟩ ?_
      refine D_split (t := 28) (e := !decide (((List.getD a0 (Int.toNat i5) default).At) = ((List.getD b1 (Int.toNat i5) default).At))) (by kernel_rfl) (fun hg11 => ?_) (fun hg11 => ?_)
      · refine D_al ?_
        exact ⟨⟨[(0, (eL e_api_Edge a0)), (1, (eL e_api_Edge b1)), (5, (eInt .i64 i5)), (54, (eBool true))], by kernel_rfl, rfl, ⟨SubV.refl _, SubV.refl _, SubV.refl _, SubV.eq (by first | (simp only [eBool, hg11, Bool.not_true, Bool.not_false, Bool.true_and, Bool.and_true, Bool.false_and, Bool.and_false, Bool.or_true, Bool.true_or, Bool.or_false, Bool.false_or, cond_true, cond_false]; done) | simp [eBool, hg11]), trivial⟩⟩, hO⟩
      refine D_ps 25 [0 ≤ i5 ∧ i5 < ((List.length a0 : Nat) : Int), 0 ≤ i5 ∧ i5 < ((List.length b1 : Nat) : Int)] ⟨(c5 (by first | (simp only [hg11, Bool.not_true, Bool.not_false, Bool.true_and, Bool.and_true, Bool.false_and, Bool.and_false, Bool.or_true, Bool.true_or, Bool.or_false, Bool.false_or, cond_true, cond_false]; done) | simp [hg11])), (c6 (by first | (simp only [hg11, Bool.not_true, Bool.not_false, Bool.true_and, Bool.and_true, Bool.false_and, Bool.and_false, Bool.or_true, Bool.true_or, Bool.or_false, Bool.false_or, cond_true, cond_false]; done) | simp [hg11])), trivial⟩ ?_
      refine D_split (t := 41) (e := !decide (((List.getD a0 (Int.toNat i5) default).Net) = ((List.getD b1 (Int.toNat i5) default).Net))) (by kernel_rfl) (fun hg12 => ?_) (fun hg12 => ?_)
      · refine D_al ?_
        exact ⟨⟨[(0, (eL e_api_Edge a0)), (1, (eL e_api_Edge b1)), (5, (eInt .i64 i5)), (54, (eBool true))], by kernel_rfl, rfl, ⟨SubV.refl _, SubV.refl _, SubV.refl _, SubV.eq (by first | (simp only [eBool, hg11, hg12, Bool.not_true, Bool.not_false, Bool.true_and, Bool.and_true, Bool.false_and, Bool.and_false, Bool.or_true, Bool.true_or, Bool.or_false, Bool.false_or, cond_true, cond_false]; done) | simp [eBool, hg11, hg12]), trivial⟩⟩, hO⟩
      refine D_ps 35 [0 ≤ i5 ∧ i5 < ((List.length a0 : Nat) : Int), 0 ≤ i5 ∧ i5 < ((List.length b1 : Nat) : Int)] ⟨(c7 (by first | (simp only [hg11, hg12, Bool.not_true, Bool.not_false, Bool.true_and, Bool.and_true, Bool.false_and, Bool.and_false, Bool.or_true, Bool.true_or, Bool.or_false, Bool.false_or, cond_true, cond_false]; done) | simp [hg11, hg12])), (c8 (by first | (simp only [hg11, hg12, Bool.not_true, Bool.not_false, Bool.true_and, Bool.and_true, Bool.false_and, Bool.and_false, Bool.or_true, Bool.true_or, Bool.or_false, Bool.false_or, cond_true, cond_false]; done) | simp [hg11, hg12])), trivial⟩ ?_
      refine D_callV 48 [(eL e_api_Value ((List.getD a0 (Int.toNat i5) default).Row)), (eL e_api_Value ((List.getD b1 (Int.toNat i5) default).Row))] (eBool x9) (by kernel_rfl) (by kernel_rfl) (w_ref06_Same ((List.getD a0 (Int.toNat i5) default).Row) ((List.getD b1 (Int.toNat i5) default).Row) _ (gcallE hx10 (by first | (simp only [hg11, hg12, Bool.not_true, Bool.not_false, Bool.true_and, Bool.and_true, Bool.false_and, Bool.and_false, Bool.or_true, Bool.true_or, Bool.or_false, Bool.false_or, cond_true, cond_false]; done) | simp [hg11, hg12]))) hO ?_
      intro H hO
      refine D_al ?_
      exact ⟨⟨[(0, (eL e_api_Edge a0)), (1, (eL e_api_Edge b1)), (5, (eInt .i64 i5)), (54, (eBool (!x9)))], by kernel_rfl, rfl, ⟨SubV.refl _, SubV.refl _, SubV.refl _, SubV.eq (by first | (simp only [eBool, hg11, hg12, Bool.not_true, Bool.not_false, Bool.true_and, Bool.and_true, Bool.false_and, Bool.and_false, Bool.or_true, Bool.true_or, Bool.or_false, Bool.false_or, cond_true, cond_false]; done) | simp [eBool, hg11, hg12]), trivial⟩⟩, hO⟩
    · rintro T H ⟨hT, hO⟩
      refine E_has hT ?_
      clear hT
      refine E_done (thenA_normal ?_)
      refine C_cd h1 (fun h1 => ?_) (fun h1 => ?_)
      · refine S_tn ttOk 1 [(4, (eBool false))] ?_
        refine C_rt ?_
        obtain rfl := Option.some.inj h1
        obtain rfl : _ = rr0 := ho0
        replace h0 : some false = some r := h0
        obtain rfl := Option.some.inj h0
        exact E_done (blockA_ret (thenA_ret (thenA_ret (blockA_ret (thenA_ret (Q_ret (x := (eBool false)) (by kernel_rfl) (SubV.refl _) ⟨rfl, hO.out⟩))))))
      refine C_sk ?_
      refine E_hk [(0, (eL e_api_Edge a0)), (1, (eL e_api_Edge b1)), (5, (eInt .i64 i5))] ?_
      refine E_done (blockA_normal (thenA_normal (?_)))
      refine C_rg ttOk 3 ?_
      refine R_al ?_
      exact E_done (thenA_normal (⟨rfl, IntKind.i64.wrap (i5 + (1 : Int)), (Option.some.inj h1).symm, .eq (by kernel_rfl), hO⟩))
  refine C_ex 0 ?_
  obtain rfl := Option.some.inj h1
  obtain rfl : _ = rr0 := ho0
  replace h0 : ref10_Same_j1  = some r := h0
  exact E_done (thenA_exit (thenA_exit (blockA_hit (thenA_normal (⟨rfl, .eq (by kernel_rfl), hO, h0⟩)))))

theorem w_law10_few (l0 : (List api_Edge)) (r : Bool) (h0 : s_law10_few l0 = some r) : Fine Try.prog 21 [(eL e_api_Edge l0)] (eBool r) := by
  intro H0
  refine F_wk Try.func21 ?_
  have hO := Owns.start H0
  unfold s_law10_few at h0
  refine S_al ttOk 1 [] [] ?_
  refine S_tn ttOk 4 [(2, (eBool (decide (((List.length l0 : Nat) : Int) ≤ (60 : Int)))))] ?_
  refine C_rt ?_
  obtain rfl := Option.some.inj h0
  exact E_done (Q_ret (x := (eBool (decide (((List.length l0 : Nat) : Int) ≤ (60 : Int))))) (by kernel_rfl) (SubV.refl _) ⟨rfl, hO.out⟩)

theorem w_span_tick (t0 : Int) (r : Bool) (h0 : s_span_tick t0 = some r) : Fine Try.prog 110 [(eInt .i64 t0)] (eBool r) := by
  intro H0
  refine F_wk Try.func110 ?_
  have hO := Owns.start H0
  unfold s_span_tick at h0
  refine S_al ttOk 1 [] [] ?_
  refine S_tn ttOk 7 [(2, (eBool ((decide ((0 : Int) ≤ t0)) && (decide (t0 ≤ (1125899906842624 : Int))))))] ?_
  refine C_rt ?_
  obtain rfl := Option.some.inj h0
  exact E_done (Q_ret (x := (eBool ((decide ((0 : Int) ≤ t0)) && (decide (t0 ≤ (1125899906842624 : Int)))))) (by kernel_rfl) (SubV.refl _) ⟨rfl, hO.out⟩)

theorem w_span_May (s0 : api_Span) (r : Bool) (h0 : s_span_May s0 = some r) : Fine Try.prog 81 [(e_api_Span s0)] (eBool r) := by
  intro H0
  refine F_wk Try.func81 ?_
  have hO := Owns.start H0
  unfold s_span_May at h0
  refine C_sq ?_
  refine C_rg ttOk 2 ?_
  refine R_boxF 2 (e_api_Span s0) (by kernel_rfl) (by kernel_rfl) ?_
  refine R_al ?_
  refine E_tn [(1, (.rp (e_api_Span s0)))] ?_
  refine C_sq ?_
  refine C_rg ttOk 16 ?_
  refine R_pu 2 ?_
  obtain ⟨x1, hx2, h0⟩ := bindE h0
  refine R_cO 110 [(eInt .i64 s0.From)] (eBool x1) (w_span_tick s0.From _ hx2) hO ?_
  intro H hO
  refine R_pu 6 ?_
  obtain ⟨x4, hx5, h0⟩ := bindE h0
  refine R_callO [(6, true)] 110 [(eInt .i64 s0.To)] (eBool x4) x1 (by kernel_rfl) (by kernel_rfl) (by kernel_rfl) (fun hb6 => (w_span_tick s0.To _ (gcallE hx5 hb6))) hO ?_
  intro H hO
  refine R_al ?_
  refine E_tn [(2, (eBool ((x1 && x4) && (decide (s0.From < s0.To)))))] ?_
  refine C_rt ?_
  obtain rfl := Option.some.inj h0
  exact E_done (Q_ret (x := (eBool ((x1 && x4) && (decide (s0.From < s0.To))))) (by kernel_rfl) (SubV.refl _) ⟨rfl, hO.out⟩)

theorem w_edge_Of (r0 : (List api_Value)) (s1 : api_Span) (r : ((List api_Edge) × Int)) (h0 : s_edge_Of r0 s1 = some r) : Fine Try.prog 39 [(eL e_api_Value r0), (e_api_Span s1)] (.tup [(eL e_api_Edge r.1), (eInt .i64 r.2)]) := by
  intro H0
  refine F_wk Try.func39 ?_
  have hO := Owns.start H0
  unfold s_edge_Of at h0
  refine C_sq ?_
  refine C_rg ttOk 3 ?_
  refine R_boxF 2 (e_api_Span s1) (by kernel_rfl) (by kernel_rfl) ?_
  refine R_al ?_
  refine E_ad [1] [(3, (.rp (e_api_Span s1)))] ?_
  refine C_sq ?_
  refine C_bk 0 ?_
  refine C_sq ?_
  refine C_rg ttOk 4 ?_
  refine R_pu 1 ?_
  obtain ⟨x1, hx2, h0⟩ := bindE h0
  refine R_cO 55 [(eL e_api_Value r0)] (eBool x1) (w_row_May r0 _ hx2) hO ?_
  intro H hO
  refine R_al ?_
  refine E_ad [] [(6, (eBool (!x1)))] ?_
  refine C_cd h0 (fun h0 => ?_) (fun h0 => ?_)
  · refine S_tn ttOk 2 [(4, (.sl true 0 (fun _ => .bad))), (5, (eInt .i64 (2 : Int)))] ?_
    refine C_rt ?_
    refine E_has (l := [(4, (eL e_api_Edge ([]))), (5, (eInt .i64 (2 : Int)))]) ⟨[(4, (.sl true 0 (fun _ => .bad))), (5, (eInt .i64 (2 : Int)))], by kernel_rfl, rfl, ⟨subNilL, SubV.refl _, trivial⟩⟩ ?_
    obtain rfl := Option.some.inj h0
    exact E_done (blockA_ret (thenA_ret (Q_ret (x := (.tup [(eL e_api_Edge ([])), (eInt .i64 (2 : Int))])) (by kernel_rfl) (SubV.refl _) ⟨rfl, hO.out⟩)))
  refine C_sq ?_
  refine C_rg ttOk 4 ?_
  refine R_pu 1 ?_
  obtain ⟨x5, hx6, h0⟩ := bindE h0
  refine R_cO 81 [(e_api_Span s1)] (eBool x5) (w_span_May s1 _ hx6) hO ?_
  intro H hO
  refine R_al ?_
  refine E_ad [6] [(10, (eBool (!x5)))] ?_
  refine C_cd h0 (fun h0 => ?_) (fun h0 => ?_)
  · refine S_tn ttOk 2 [(4, (.sl true 0 (fun _ => .bad))), (5, (eInt .i64 (14 : Int)))] ?_
    refine C_rt ?_
    refine E_has (l := [(4, (eL e_api_Edge ([]))), (5, (eInt .i64 (14 : Int)))]) ⟨[(4, (.sl true 0 (fun _ => .bad))), (5, (eInt .i64 (14 : Int)))], by kernel_rfl, rfl, ⟨subNilL, SubV.refl _, trivial⟩⟩ ?_
    obtain rfl := Option.some.inj h0
    exact E_done (blockA_ret (thenA_ret (Q_ret (x := (.tup [(eL e_api_Edge ([])), (eInt .i64 (14 : Int))])) (by kernel_rfl) (SubV.refl _) ⟨rfl, hO.out⟩)))
  refine C_sk ?_
  refine E_hk [(0, (eL e_api_Value r0)), (3, (.rp (e_api_Span s1)))] ?_
  refine E_done (blockA_normal (thenA_normal (?_)))
  refine C_sq ?_
  refine C_rg ttOk 14 ?_
  refine R_pu 8 ?_
  refine R_bsl (xs := [(e_api_Edge (api_Edge.mk r0 s1.From (1 : Int))), (e_api_Edge (api_Edge.mk r0 s1.To (-1 : Int)))]) (k := 3) (by kernel_rfl) (by kernel_rfl) ?_
  obtain ⟨x9, hx10, h0⟩ := bindE h0
  refine R_cO 23 [(frozenOf [(e_api_Edge (api_Edge.mk r0 s1.From (1 : Int))), (e_api_Edge (api_Edge.mk r0 s1.To (-1 : Int)))])] (.tup [(eL e_api_Edge x9.1), (eInt .i64 x9.2)]) (Fine.sub (w_edge_Norm ([api_Edge.mk r0 s1.From (1 : Int), api_Edge.mk r0 s1.To (-1 : Int)]) _ hx10) ⟨subLit (l := [api_Edge.mk r0 s1.From (1 : Int), api_Edge.mk r0 s1.To (-1 : Int)]), trivial⟩) hO ?_
  intro H hO
  refine R_al ?_
  refine E_tn [(4, (eL e_api_Edge x9.1)), (5, (eInt .i64 x9.2))] ?_
  refine C_rt ?_
  obtain rfl := Option.some.inj h0
  exact E_done (Q_ret (x := (.tup [(eL e_api_Edge x9.1), (eInt .i64 x9.2)])) (by kernel_rfl) (SubV.refl _) ⟨rfl, hO.out⟩)

theorem w_slices_Grow_api_Edge_api_Edge (n1 : Int) (r : (List api_Edge)) (h0 : s_slices_Grow_api_Edge_api_Edge n1 = some r) : FineO Try.prog 107 [(.sl true 0 (fun _ => .bad)), (eInt .i64 n1)] (fun lo => (.msl 3 lo 0 (List.length r))) 3 (List.map e_api_Edge r) := by
  intro H0
  refine F_wk Try.func107 ?_
  have hO := Owns.start H0
  unfold s_slices_Grow_api_Edge_api_Edge at h0
  refine S_al ttOk 1 [] [] ?_
  refine C_sq ?_
  refine S_al ttOk 2 [] [(6, (eBool (decide (n1 < (0 : Int)))))] ?_
  refine C_cd h0 (fun h0 => ?_) (fun h0 => ?_)
  · cases h0
  refine C_sk ?_
  refine E_tn [(0, (.sl true 0 (fun _ => .bad))), (1, (eInt .i64 n1))] ?_
  refine C_sj (fun T H => ∃ s0 : List api_Edge, ∃ lo2 : Nat, Has T [(0, (.msl 3 lo2 0 (List.length s0)))] ∧ Owns ⟨H0, [], []⟩ H [(lo2, 3, List.map e_api_Edge s0)] ∧ slices_Grow_api_Edge_api_Edge_j1 s0 = some r) ?_ ?_
  · clear hO h0
    rintro T H ⟨s0, lo2, hT, hO, h0⟩
    refine C_has hT ?_
    clear hT
    unfold slices_Grow_api_Edge_api_Edge_j1 at h0
    refine S_tn ttOk 2 [(4, (.msl 3 lo2 0 (List.length s0)))] ?_
    refine C_rt ?_
    obtain rfl := Option.some.inj h0
    exact E_done (Q_ret (x := (.msl 3 lo2 0 (List.length s0))) (by kernel_rfl) (SubV.refl _) ⟨lo2, rfl, hO⟩)
  refine S_al ttOk 8 [1] [(1, (eInt .i64 (IntKind.i64.wrap (n1 - (IntKind.i64.wrap ((0 : Int) - ((0 : Nat) : Int)))))))] ?_
  refine S_al ttOk 2 [] [(16, (eBool (decide ((0 : Int) < (IntKind.i64.wrap (n1 - (IntKind.i64.wrap ((0 : Int) - ((0 : Nat) : Int)))))))))] ?_
  refine C_cd h0 (fun h0 => ?_) (fun h0 => ?_)
  · refine C_rg ttOk 10 ?_
    obtain ⟨c4, h0⟩ := asrtE h0
    refine R_ps 5 [0 ≤ (0 : Int) ∧ (0 : Int) ≤ ((0 : Nat) : Int)] ⟨c4, trivial⟩ ?_
    obtain ⟨c5, h0⟩ := asrtE h0
    refine R_appMakeO 3 40 (IntKind.i64.wrap (n1 - (IntKind.i64.wrap ((0 : Int) - ((0 : Nat) : Int))))) (by kernel_rfl) (by kernel_rfl) c5 hO ?_
    intro lo6 H hO
    obtain ⟨c7, h0⟩ := asrtE h0
    refine R_as [0 ≤ ((0 : Nat) : Int) ∧ ((0 : Nat) : Int) ≤ (((Int.toNat (IntKind.i64.wrap (n1 - (IntKind.i64.wrap ((0 : Int) - ((0 : Nat) : Int)))))) : Nat) : Int)] ⟨c7, trivial⟩ ?_
    exact E_done (thenA_normal (⟨rfl, ([] : List api_Edge), lo6, .eq (by kernel_rfl), hO, h0⟩))
  refine C_sk ?_
  refine E_hk [(0, (.sl true 0 (fun _ => .bad)))] ?_
  refine E_ownO (el := (fun _ => .bad)) 0 0 3 hO (by kernel_rfl) ?_
  intro lo8 H9 hO
  exact E_done (thenA_normal (⟨rfl, ([] : List api_Edge), lo8, .eq (by kernel_rfl), hO, h0⟩))

theorem w_slices_Concat_api_Edge_api_Edge (slices0 : (List (List api_Edge))) (r : (List api_Edge)) (h0 : s_slices_Concat_api_Edge_api_Edge slices0 = some r) : Fine Try.prog 79 [(eL (eL e_api_Edge) slices0)] (eL e_api_Edge r) := by
  intro H0
  refine F_wk Try.func79 ?_
  have hO := Owns.start H0
  unfold s_slices_Concat_api_Edge_api_Edge at h0
  refine S_al ttOk 1 [] [] ?_
  refine S_al ttOk 1 [] [(3, (eInt .i64 (0 : Int)))] ?_
  refine C_sj (fun T H => ∃ size3 : Int, Has T [(0, (eL (eL e_api_Edge) slices0)), (3, (eInt .i64 size3))] ∧ Owns ⟨H0, [], []⟩ H [] ∧ slices_Concat_api_Edge_api_Edge_j1 slices0 size3 = some r) ?_ ?_
  · clear hO h0
    rintro T H ⟨size3, hT, hO, h0⟩
    refine C_has hT ?_
    clear hT
    unfold slices_Concat_api_Edge_api_Edge_j1 at h0
    refine C_sq ?_
    refine C_rg ttOk 3 ?_
    refine R_pu 1 ?_
    obtain ⟨x1, hx2, h0⟩ := bindE h0
    refine R_callP (L' := fun lo3 => [(lo3, 3, List.map e_api_Edge x1)]) 3 (List.map e_api_Edge x1) 107 [(.sl true 0 (fun _ => .bad)), (eInt .i64 size3)] (fun lo3 => (.msl 3 lo3 0 (List.length x1))) (by kernel_rfl) (by kernel_rfl) (w_slices_Grow_api_Edge_api_Edge size3 _ hx2) hO (fun _ => by kernel_rfl) ?_
    intro lo3 H hO
    refine R_al ?_
    refine E_ad [3] [(6, (.msl 3 lo3 0 (List.length x1)))] ?_
    refine C_sj (fun T H => ∃ newslice6 : List api_Edge, ∃ lo4 : Nat, Has T [(6, (.msl 3 lo4 0 (List.length newslice6)))] ∧ Owns ⟨H0, [], []⟩ H [(lo4, 3, List.map e_api_Edge newslice6)] ∧ slices_Concat_api_Edge_api_Edge_j2 newslice6 = some r) ?_ ?_
    · clear hO h0
      rintro T H ⟨newslice6, lo4, hT, hO, h0⟩
      refine C_has hT ?_
      clear hT
      unfold slices_Concat_api_Edge_api_Edge_j2 at h0
      refine S_tn ttOk 2 [(2, (.msl 3 lo4 0 (List.length newslice6)))] ?_
      refine C_rt ?_
      refine E_hk [(2, (.msl 3 lo4 0 (List.length newslice6)))] ?_
      refine E_freezeO (en := e_api_Edge) newslice6 0 0 2 3 lo4 (List.length newslice6) hO (by kernel_rfl) (by kernel_rfl) (by kernel_rfl) (L' := []) (by kernel_rfl) ?_
      intro H5 hO
      obtain rfl := Option.some.inj h0
      exact E_done (Q_ret (x := (eL e_api_Edge newslice6)) (by kernel_rfl) (SubV.refl _) ⟨rfl, hO.out⟩)
    refine S_al ttOk 3 [0] [(25, (eL (eL e_api_Edge) slices0)), (26, (eInt .i64 ((List.length slices0 : Nat) : Int))), (27, (eInt .i64 (0 : Int)))] ?_
    refine C_bk 2 ?_
    refine C_hk [(6, (.msl 3 lo3 0 (List.length x1))), (25, (eL (eL e_api_Edge) slices0)), (26, (eInt .i64 ((List.length slices0 : Nat) : Int))), (27, (eInt .i64 (0 : Int)))] ?_
    refine C_cut (fun T H => ∃ newslice6 : List api_Edge, ∃ t25 : (List (List api_Edge)), ∃ t26 : Int, ∃ t27 : Int, ∃ lo7 : Nat, Has T [(6, (.msl 3 lo7 0 (List.length newslice6))), (25, (eL (eL e_api_Edge) t25)), (26, (eInt .i64 t26)), (27, (eInt .i64 t27))] ∧ Owns ⟨H0, [], []⟩ H [(lo7, 3, List.map e_api_Edge newslice6)] ∧ slices_Concat_api_Edge_api_Edge_h3 newslice6 t25 t26 t27 = some r) ?_ ⟨x1, slices0, ((List.length slices0 : Nat) : Int), (0 : Int), lo3, .eq (by kernel_rfl), hO, h0⟩
    clear hO h0
    rintro T H ⟨newslice6, t25, t26, t27, lo7, hT, hO, h0⟩
    refine C_has hT ?_
    clear hT
    unfold slices_Concat_api_Edge_api_Edge_h3 at h0
    obtain ⟨rr0, hl0, h0⟩ := bindE h0
    refine C_loopS (by kernel_rfl) (fun (s : List api_Edge × Int) T H => ∃ lo7 : Nat, Has T [(6, (.msl 3 lo7 0 (List.length s.1))), (25, (eL (eL e_api_Edge) t25)), (26, (eInt .i64 t26)), (27, (eInt .i64 s.2))] ∧ Owns ⟨H0, [], []⟩ H [(lo7, 3, List.map e_api_Edge s.1)]) hl0 ⟨lo7, .eq (by kernel_rfl), hO⟩ ?_
    clear hO
    rintro k0 s out1 T H ⟨lo7, hT, hO⟩ h1 ho0
    obtain ⟨newslice6, t27⟩ := s
    replace h1 : slices_Concat_api_Edge_api_Edge_l3 t25 t26 newslice6 t27 = some out1 := h1
    dsimp only at hT
    refine C_has hT ?_
    clear hT
    unfold slices_Concat_api_Edge_api_Edge_l3 at h1
    refine S_al ttOk 1 [] [(28, (eBool (decide (t27 < t26))))] ?_
    refine C_sq ?_
    refine C_cd h1 (fun h1 => ?_) (fun h1 => ?_)
    · refine C_sk ?_
      refine E_tn [(6, (.msl 3 lo7 0 (List.length newslice6))), (25, (eL (eL e_api_Edge) t25)), (26, (eInt .i64 t26)), (27, (eInt .i64 t27))] ?_
      refine C_sq ?_
      refine C_bk 3 ?_
      refine C_sq ?_
      refine C_rg ttOk 3 ?_
      obtain ⟨c9, h1⟩ := asrtE h1
      refine R_as [0 ≤ t27 ∧ t27 < ((List.length t25 : Nat) : Int)] ⟨c9, trivial⟩ ?_
      refine E_ad [] [(8, (eL e_api_Edge (List.getD t25 (Int.toNat t27) default)))] ?_
      refine C_rg ttOk 4 ?_
      refine R_pu 2 ?_
      obtain ⟨c11, h1⟩ := asrtE h1
      refine R_appOL (e := e_api_Edge) newslice6 (List.getD t25 (Int.toNat t27) default) 0 lo7 3 40 (eL e_api_Edge (List.getD t25 (Int.toNat t27) default)) (fun lo10 => [(lo10, 3, List.map e_api_Edge (newslice6 ++ (List.getD t25 (Int.toNat t27) default)))]) (by kernel_rfl) (by kernel_rfl) hO (by kernel_rfl) (appX_eL (fun _ => by kernel_rfl)) c11 (fun _ => by kernel_rfl) ?_
      intro lo10 H hO
      refine R_al ?_
      refine E_hk [(6, (.msl 3 lo10 0 (List.length (newslice6 ++ (List.getD t25 (Int.toNat t27) default))))), (25, (eL (eL e_api_Edge) t25)), (26, (eInt .i64 t26)), (27, (eInt .i64 t27))] ?_
      refine E_done (blockA_normal (thenA_normal (?_)))
      refine C_rg ttOk 2 ?_
      refine R_al ?_
      exact E_done (thenA_normal (⟨rfl, (newslice6 ++ (List.getD t25 (Int.toNat t27) default), IntKind.i64.wrap (t27 + (1 : Int))), (Option.some.inj h1).symm, lo10, .eq (by kernel_rfl), hO⟩))
    refine C_ex 2 ?_
    obtain rfl := Option.some.inj h1
    obtain rfl : _ = rr0 := ho0
    replace h0 : slices_Concat_api_Edge_api_Edge_j2 newslice6 = some r := h0
    exact E_done (thenA_exit (thenA_exit (blockA_hit (thenA_normal (⟨rfl, newslice6, lo7, .eq (by kernel_rfl), hO, h0⟩)))))
  refine S_al ttOk 3 [] [(9, (eL (eL e_api_Edge) slices0)), (10, (eInt .i64 ((List.length slices0 : Nat) : Int))), (11, (eInt .i64 (0 : Int)))] ?_
  refine C_bk 0 ?_
  refine C_hk [(0, (eL (eL e_api_Edge) slices0)), (3, (eInt .i64 (0 : Int))), (9, (eL (eL e_api_Edge) slices0)), (10, (eInt .i64 ((List.length slices0 : Nat) : Int))), (11, (eInt .i64 (0 : Int)))] ?_
  refine C_cut (fun T H => ∃ size3 : Int, ∃ t9 : (List (List api_Edge)), ∃ t10 : Int, ∃ t11 : Int, Has T [(0, (eL (eL e_api_Edge) slices0)), (3, (eInt .i64 size3)), (9, (eL (eL e_api_Edge) t9)), (10, (eInt .i64 t10)), (11, (eInt .i64 t11))] ∧ Owns ⟨H0, [], []⟩ H [] ∧ slices_Concat_api_Edge_api_Edge_h4 slices0 size3 t9 t10 t11 = some r) ?_ ⟨(0 : Int), slices0, ((List.length slices0 : Nat) : Int), (0 : Int), .eq (by kernel_rfl), hO, h0⟩
  clear hO h0
  rintro T H ⟨size3, t9, t10, t11, hT, hO, h0⟩
  refine C_has hT ?_
  clear hT
  unfold slices_Concat_api_Edge_api_Edge_h4 at h0
  obtain ⟨rr0, hl0, h0⟩ := bindE h0
  refine C_loopS (by kernel_rfl) (fun (s : Int × Int) T H => Has T [(0, (eL (eL e_api_Edge) slices0)), (3, (eInt .i64 s.1)), (9, (eL (eL e_api_Edge) t9)), (10, (eInt .i64 t10)), (11, (eInt .i64 s.2))] ∧ Owns ⟨H0, [], []⟩ H []) hl0 ⟨.eq (by kernel_rfl), hO⟩ ?_
  clear hO
  rintro k0 s out1 T H ⟨hT, hO⟩ h1 ho0
  obtain ⟨size3, t11⟩ := s
  replace h1 : slices_Concat_api_Edge_api_Edge_l4 slices0 t9 t10 size3 t11 = some out1 := h1
  dsimp only at hT
  refine C_has hT ?_
  clear hT
  unfold slices_Concat_api_Edge_api_Edge_l4 at h1
  refine S_al ttOk 1 [] [(12, (eBool (decide (t11 < t10))))] ?_
  refine C_sq ?_
  refine C_cd h1 (fun h1 => ?_) (fun h1 => ?_)
  · refine C_sk ?_
    refine E_tn [(0, (eL (eL e_api_Edge) slices0)), (3, (eInt .i64 size3)), (9, (eL (eL e_api_Edge) t9)), (10, (eInt .i64 t10)), (11, (eInt .i64 t11))] ?_
    refine C_sq ?_
    refine C_bk 1 ?_
    refine C_sq ?_
    refine C_rg ttOk 3 ?_
    obtain ⟨c13, h1⟩ := asrtE h1
    refine R_as [0 ≤ t11 ∧ t11 < ((List.length t9 : Nat) : Int)] ⟨c13, trivial⟩ ?_
    refine E_ad [] [(5, (eL e_api_Edge (List.getD t9 (Int.toNat t11) default)))] ?_
    refine S_al ttOk 5 [3, 5] [(3, (eInt .i64 (IntKind.i64.wrap (size3 + ((List.length (List.getD t9 (Int.toNat t11) default) : Nat) : Int)))))] ?_
    refine S_al ttOk 2 [] [(20, (eBool (decide ((IntKind.i64.wrap (size3 + ((List.length (List.getD t9 (Int.toNat t11) default) : Nat) : Int))) < (0 : Int)))))] ?_
    refine C_cd h1 (fun h1 => ?_) (fun h1 => ?_)
    · cases h1
    refine C_sk ?_
    refine E_hk [(0, (eL (eL e_api_Edge) slices0)), (3, (eInt .i64 (IntKind.i64.wrap (size3 + ((List.length (List.getD t9 (Int.toNat t11) default) : Nat) : Int))))), (9, (eL (eL e_api_Edge) t9)), (10, (eInt .i64 t10)), (11, (eInt .i64 t11))] ?_
    refine E_done (blockA_normal (thenA_normal (?_)))
    refine C_rg ttOk 2 ?_
    refine R_al ?_
    exact E_done (thenA_normal (⟨rfl, (IntKind.i64.wrap (size3 + ((List.length (List.getD t9 (Int.toNat t11) default) : Nat) : Int)), IntKind.i64.wrap (t11 + (1 : Int))), (Option.some.inj h1).symm, .eq (by kernel_rfl), hO⟩))
  refine C_ex 0 ?_
  obtain rfl := Option.some.inj h1
  obtain rfl : _ = rr0 := ho0
  replace h0 : slices_Concat_api_Edge_api_Edge_j1 slices0 size3 = some r := h0
  exact E_done (thenA_exit (thenA_exit (blockA_hit (thenA_normal (⟨rfl, size3, .eq (by kernel_rfl), hO, h0⟩)))))

theorem w_edge_Add (a0 : (List api_Edge)) (b1 : (List api_Edge)) (r : ((List api_Edge) × Int)) (h0 : s_edge_Add a0 b1 = some r) : Fine Try.prog 37 [(eL e_api_Edge a0), (eL e_api_Edge b1)] (.tup [(eL e_api_Edge r.1), (eInt .i64 r.2)]) := by
  intro H0
  refine F_wk Try.func37 ?_
  have hO := Owns.start H0
  unfold s_edge_Add at h0
  refine S_al ttOk 2 [] [] ?_
  refine C_sq ?_
  refine C_sq ?_
  refine C_rg ttOk 8 ?_
  refine R_pu 1 ?_
  obtain ⟨x1, hx2, h0⟩ := bindE h0
  refine R_cO 25 [(eL e_api_Edge a0)] (eBool x1) (w_edge_May a0 _ hx2) hO ?_
  intro H hO
  refine R_pu 5 ?_
  obtain ⟨x4, hx5, h0⟩ := bindE h0
  refine R_callO [(9, false)] 25 [(eL e_api_Edge b1)] (eBool x4) (!(!x1)) (by kernel_rfl) (by kernel_rfl) (by kernel_rfl) (fun hb6 => (w_edge_May b1 _ (gcallE hx5 hb6))) hO ?_
  intro H hO
  refine R_al ?_
  refine E_ad [] [(13, (eBool ((!x1) || (!x4))))] ?_
  refine C_cd h0 (fun h0 => ?_) (fun h0 => ?_)
  · refine S_tn ttOk 2 [(4, (.sl true 0 (fun _ => .bad))), (5, (eInt .i64 (2 : Int)))] ?_
    refine C_rt ?_
    refine E_has (l := [(4, (eL e_api_Edge ([]))), (5, (eInt .i64 (2 : Int)))]) ⟨[(4, (.sl true 0 (fun _ => .bad))), (5, (eInt .i64 (2 : Int)))], by kernel_rfl, rfl, ⟨subNilL, SubV.refl _, trivial⟩⟩ ?_
    obtain rfl := Option.some.inj h0
    exact E_done (thenA_ret (Q_ret (x := (.tup [(eL e_api_Edge ([])), (eInt .i64 (2 : Int))])) (by kernel_rfl) (SubV.refl _) ⟨rfl, hO.out⟩))
  refine C_sk ?_
  refine E_tn [(0, (eL e_api_Edge a0)), (1, (eL e_api_Edge b1))] ?_
  refine C_sq ?_
  refine C_rg ttOk 9 ?_
  refine R_pu 2 ?_
  refine R_bsl (xs := [(eL e_api_Edge a0), (eL e_api_Edge b1)]) (k := 1) (by kernel_rfl) (by kernel_rfl) ?_
  obtain ⟨x8, hx9, h0⟩ := bindE h0
  refine R_cO 79 [(frozenOf [(eL e_api_Edge a0), (eL e_api_Edge b1)])] (eL e_api_Edge x8) (Fine.sub (w_slices_Concat_api_Edge_api_Edge ([a0, b1]) _ hx9) ⟨subLit (l := [a0, b1]), trivial⟩) hO ?_
  intro H hO
  obtain ⟨x11, hx12, h0⟩ := bindE h0
  refine R_cO 23 [(eL e_api_Edge x8)] (.tup [(eL e_api_Edge x11.1), (eInt .i64 x11.2)]) (w_edge_Norm x8 _ hx12) hO ?_
  intro H hO
  refine R_al ?_
  refine E_tn [(4, (eL e_api_Edge x11.1)), (5, (eInt .i64 x11.2))] ?_
  refine C_rt ?_
  obtain rfl := Option.some.inj h0
  exact E_done (Q_ret (x := (.tup [(eL e_api_Edge x11.1), (eInt .i64 x11.2)])) (by kernel_rfl) (SubV.refl _) ⟨rfl, hO.out⟩)

theorem w_law10_live  (r : Bool) (h0 : s_law10_live  = some r) : Fine Try.prog 22 [] (eBool r) := by
  intro H0
  refine F_wk Try.func22 ?_
  have hO := Owns.start H0
  unfold s_law10_live at h0
  refine S_tn ttOk 1 [] ?_
  refine C_sq ?_
  refine C_rg ttOk 3 ?_
  refine R_pu 1 ?_
  refine R_bsl (xs := [(e_api_Value (api_Value.mk (1 : Int) (1 : Int) ByteArray.empty))]) (k := 3) (by kernel_rfl) (by kernel_rfl) ?_
  refine R_al ?_
  refine E_has (l := [(1, (eL e_api_Value ([api_Value.mk (1 : Int) (1 : Int) ByteArray.empty])))]) ⟨[(1, (frozenOf [(e_api_Value (api_Value.mk (1 : Int) (1 : Int) ByteArray.empty))]))], by kernel_rfl, rfl, ⟨subLit (l := [api_Value.mk (1 : Int) (1 : Int) ByteArray.empty]), trivial⟩⟩ ?_
  refine E_done (thenA_normal (?_))
  refine C_sq ?_
  refine C_rg ttOk 8 ?_
  refine R_pu 2 ?_
  obtain ⟨x1, hx2, h0⟩ := bindE h0
  refine R_cO 39 [(eL e_api_Value ([api_Value.mk (1 : Int) (1 : Int) ByteArray.empty])), (e_api_Span (api_Span.mk (2 : Int) (5 : Int)))] (.tup [(eL e_api_Edge x1.1), (eInt .i64 x1.2)]) (w_edge_Of ([api_Value.mk (1 : Int) (1 : Int) ByteArray.empty]) (api_Span.mk (2 : Int) (5 : Int)) _ hx2) hO ?_
  intro H hO
  refine R_al ?_
  refine E_ad [] [(2, (eL e_api_Edge x1.1)), (3, (eInt .i64 x1.2))] ?_
  refine C_sq ?_
  refine C_rg ttOk 8 ?_
  refine R_pu 2 ?_
  obtain ⟨x4, hx5, h0⟩ := bindE h0
  refine R_cO 39 [(eL e_api_Value ([api_Value.mk (1 : Int) (1 : Int) ByteArray.empty])), (e_api_Span (api_Span.mk (5 : Int) (9 : Int)))] (.tup [(eL e_api_Edge x4.1), (eInt .i64 x4.2)]) (w_edge_Of ([api_Value.mk (1 : Int) (1 : Int) ByteArray.empty]) (api_Span.mk (5 : Int) (9 : Int)) _ hx5) hO ?_
  intro H hO
  refine R_al ?_
  refine E_ad [1] [(4, (eL e_api_Edge x4.1)), (5, (eInt .i64 x4.2))] ?_
  refine C_sq ?_
  refine C_rg ttOk 8 ?_
  refine R_pu 2 ?_
  obtain ⟨x7, hx8, h0⟩ := bindE h0
  refine R_cO 37 [(eL e_api_Edge x1.1), (eL e_api_Edge x4.1)] (.tup [(eL e_api_Edge x7.1), (eInt .i64 x7.2)]) (w_edge_Add x1.1 x4.1 _ hx8) hO ?_
  intro H hO
  refine R_al ?_
  refine E_ad [4] [(6, (eL e_api_Edge x7.1)), (7, (eInt .i64 x7.2))] ?_
  refine C_sq ?_
  refine C_rg ttOk 56 ?_
  obtain ⟨c10, h0⟩ := asrtE h0
  obtain ⟨c11, h0⟩ := asrtE h0
  obtain ⟨c12, h0⟩ := asrtE h0
  obtain ⟨c13, h0⟩ := asrtE h0
  refine R_ps 50 [(((((((decide (x1.2 = (0 : Int))) && (decide (x4.2 = (0 : Int)))) && (decide (x7.2 = (0 : Int)))) && (decide (((List.length x1.1 : Nat) : Int) = (2 : Int)))) && (decide (((List.length x7.1 : Nat) : Int) = (2 : Int))))) = true → 0 ≤ (0 : Int) ∧ (0 : Int) < ((List.length x7.1 : Nat) : Int)), ((((((((decide (x1.2 = (0 : Int))) && (decide (x4.2 = (0 : Int)))) && (decide (x7.2 = (0 : Int)))) && (decide (((List.length x1.1 : Nat) : Int) = (2 : Int)))) && (decide (((List.length x7.1 : Nat) : Int) = (2 : Int)))) && (decide (((List.getD x7.1 (Int.toNat (0 : Int)) default).At) = (2 : Int))))) = true → 0 ≤ (0 : Int) ∧ (0 : Int) < ((List.length x7.1 : Nat) : Int)), (((((((((decide (x1.2 = (0 : Int))) && (decide (x4.2 = (0 : Int)))) && (decide (x7.2 = (0 : Int)))) && (decide (((List.length x1.1 : Nat) : Int) = (2 : Int)))) && (decide (((List.length x7.1 : Nat) : Int) = (2 : Int)))) && (decide (((List.getD x7.1 (Int.toNat (0 : Int)) default).At) = (2 : Int)))) && (decide (((List.getD x7.1 (Int.toNat (0 : Int)) default).Net) = (1 : Int))))) = true → 0 ≤ (1 : Int) ∧ (1 : Int) < ((List.length x7.1 : Nat) : Int)), ((((((((((decide (x1.2 = (0 : Int))) && (decide (x4.2 = (0 : Int)))) && (decide (x7.2 = (0 : Int)))) && (decide (((List.length x1.1 : Nat) : Int) = (2 : Int)))) && (decide (((List.length x7.1 : Nat) : Int) = (2 : Int)))) && (decide (((List.getD x7.1 (Int.toNat (0 : Int)) default).At) = (2 : Int)))) && (decide (((List.getD x7.1 (Int.toNat (0 : Int)) default).Net) = (1 : Int)))) && (decide (((List.getD x7.1 (Int.toNat (1 : Int)) default).At) = (9 : Int))))) = true → 0 ≤ (1 : Int) ∧ (1 : Int) < ((List.length x7.1 : Nat) : Int))] ⟨c10, c11, c12, c13, trivial⟩ ?_
  obtain ⟨x14, hx15, h0⟩ := bindE h0
  refine R_callO [(76, true)] 17 [(eL e_api_Edge x7.1)] (eBool x14) (((((((((decide (x1.2 = (0 : Int))) && (decide (x4.2 = (0 : Int)))) && (decide (x7.2 = (0 : Int)))) && (decide (((List.length x1.1 : Nat) : Int) = (2 : Int)))) && (decide (((List.length x7.1 : Nat) : Int) = (2 : Int)))) && (decide (((List.getD x7.1 (Int.toNat (0 : Int)) default).At) = (2 : Int)))) && (decide (((List.getD x7.1 (Int.toNat (0 : Int)) default).Net) = (1 : Int)))) && (decide (((List.getD x7.1 (Int.toNat (1 : Int)) default).At) = (9 : Int)))) && (decide (((List.getD x7.1 (Int.toNat (1 : Int)) default).Net) = (-1 : Int)))) (by kernel_rfl) (by kernel_rfl) (by kernel_rfl) (fun hb16 => (w_edge_Table x7.1 _ (gcallE hx15 hb16))) hO ?_
  intro H hO
  refine R_pu 53 ?_
  obtain ⟨x17, hx18, h0⟩ := bindE h0
  refine R_callO [(80, true)] 25 [(.sl true 0 (fun _ => .bad))] (eBool x17) ((((((((((decide (x1.2 = (0 : Int))) && (decide (x4.2 = (0 : Int)))) && (decide (x7.2 = (0 : Int)))) && (decide (((List.length x1.1 : Nat) : Int) = (2 : Int)))) && (decide (((List.length x7.1 : Nat) : Int) = (2 : Int)))) && (decide (((List.getD x7.1 (Int.toNat (0 : Int)) default).At) = (2 : Int)))) && (decide (((List.getD x7.1 (Int.toNat (0 : Int)) default).Net) = (1 : Int)))) && (decide (((List.getD x7.1 (Int.toNat (1 : Int)) default).At) = (9 : Int)))) && (decide (((List.getD x7.1 (Int.toNat (1 : Int)) default).Net) = (-1 : Int)))) && x14) (by kernel_rfl) (by kernel_rfl) (by kernel_rfl) (fun hb19 => (Fine.sub (w_edge_May ([]) _ (gcallE hx18 hb19)) ⟨subNilL, trivial⟩)) hO ?_
  intro H hO
  refine R_al ?_
  refine E_tn [(0, (eBool (((((((((((decide (x1.2 = (0 : Int))) && (decide (x4.2 = (0 : Int)))) && (decide (x7.2 = (0 : Int)))) && (decide (((List.length x1.1 : Nat) : Int) = (2 : Int)))) && (decide (((List.length x7.1 : Nat) : Int) = (2 : Int)))) && (decide (((List.getD x7.1 (Int.toNat (0 : Int)) default).At) = (2 : Int)))) && (decide (((List.getD x7.1 (Int.toNat (0 : Int)) default).Net) = (1 : Int)))) && (decide (((List.getD x7.1 (Int.toNat (1 : Int)) default).At) = (9 : Int)))) && (decide (((List.getD x7.1 (Int.toNat (1 : Int)) default).Net) = (-1 : Int)))) && x14) && x17)))] ?_
  refine C_rt ?_
  obtain rfl := Option.some.inj h0
  exact E_done (Q_ret (x := (eBool (((((((((((decide (x1.2 = (0 : Int))) && (decide (x4.2 = (0 : Int)))) && (decide (x7.2 = (0 : Int)))) && (decide (((List.length x1.1 : Nat) : Int) = (2 : Int)))) && (decide (((List.length x7.1 : Nat) : Int) = (2 : Int)))) && (decide (((List.getD x7.1 (Int.toNat (0 : Int)) default).At) = (2 : Int)))) && (decide (((List.getD x7.1 (Int.toNat (0 : Int)) default).Net) = (1 : Int)))) && (decide (((List.getD x7.1 (Int.toNat (1 : Int)) default).At) = (9 : Int)))) && (decide (((List.getD x7.1 (Int.toNat (1 : Int)) default).Net) = (-1 : Int)))) && x14) && x17))) (by kernel_rfl) (SubV.refl _) ⟨rfl, hO.out⟩)

theorem w_edge_Groups (l0 : (List api_Edge)) (r : (List api_Edge)) (h0 : s_edge_Groups l0 = some r) : Fine Try.prog 28 [(eL e_api_Edge l0)] (.fn (.func 69) [] [(.rp (eL e_api_Edge r))]) := by
  intro H0
  refine F_wk Try.func28 ?_
  have hO := Owns.start H0
  unfold s_edge_Groups at h0
  refine C_sq ?_
  refine C_rg ttOk 2 ?_
  refine R_boxF 1 (eL e_api_Edge l0) (by kernel_rfl) (by kernel_rfl) ?_
  refine R_al ?_
  refine E_tn [(1, (.rp (eL e_api_Edge l0)))] ?_
  refine S_tn ttOk 2 [(2, (.fn (.func 69) [] [(.rp (eL e_api_Edge l0))]))] ?_
  refine C_rt ?_
  obtain rfl := Option.some.inj h0
  exact E_done (Q_ret (x := (.fn (.func 69) [] [(.rp (eL e_api_Edge l0))])) (by kernel_rfl) (SubV.refl _) ⟨rfl, hO.out⟩)

theorem w_edge_Groups_1_G {σ : Type} (I : σ → Gs → Prop) (yield0_b : Nat) (yield0 : σ → (List api_Value) → (List api_Jump) → Option (σ × Bool)) (yield0_h : ∀ st a0 a1 st2 r, yield0 st a0 a1 = some (st2, r) → FineV Try.prog (yv yield0_b) I st [(eL e_api_Value a0), (eL e_api_Jump a1)] st2 (eBool r)) (t1 : (List api_Edge)) (sg0 : σ) (r : σ) (h0 : s_edge_Groups_1_G yield0 t1 sg0 = some r) : FineG Try.prog 69 I sg0 [(yv yield0_b), (.rp (eL e_api_Edge t1))] r (.tup []) := by
  intro H0 G0 hI hg
  refine F_walkM ttOk Try.func69 (by kernel_rfl) (by kernel_rfl) (by kernel_rfl) ?_
  obtain ⟨G, hO, hI⟩ : ∃ G, Owns ⟨H0, List.map (fun p : Nat × AObj => p.1) G0, G⟩ H0 [] ∧ I sg0 G := ⟨G0, Owns.startG hg, hI⟩
  clear hg
  unfold s_edge_Groups_1_G at h0
  refine C_sq ?_
  refine C_rg ttOk 1 ?_
  refine R_boxF 1 (yv yield0_b) (by kernel_rfl) (by kernel_rfl) ?_
  refine R_en ?_
  refine E_ad [0] [(2, (.rp (yv yield0_b)))] ?_
  refine C_sq ?_
  refine C_sq ?_
  refine C_rg ttOk 3 ?_
  refine R_pu 1 ?_
  obtain ⟨x1, hx2, h0⟩ := bindE h0
  refine R_cO 25 [(eL e_api_Edge t1)] (eBool x1) (w_edge_May t1 _ hx2) hO ?_
  intro H hO
  refine R_al ?_
  refine E_ad [] [(7, (eBool (!x1)))] ?_
  refine C_cd h0 (fun h0 => ?_) (fun h0 => ?_)
  · refine C_rt ?_
    obtain rfl := Option.some.inj h0
    exact E_done (thenA_ret (QM0 (.inr rfl) (rs := []) (xs := []) (x := (.tup [])) (by kernel_rfl) resNil (by kernel_rfl) ⟨rfl, G, hI, hO.endG⟩))
  refine C_sk ?_
  refine E_tn [(1, (.rp (eL e_api_Edge t1))), (2, (.rp (yv yield0_b)))] ?_
  refine C_sq ?_
  refine C_rg ttOk 2 ?_
  refine R_pu 1 ?_
  obtain ⟨x5, hx6, h0⟩ := bindE h0
  refine R_cO 70 [(eL e_api_Edge t1)] (.fn (.func 104) [] [(.rp (eL e_api_Edge x5))]) (w_edge_runs t1 _ hx6) hO ?_
  intro H hO
  refine R_en ?_
  refine E_ad [1] [(9, (.fn (.func 104) [] [(.rp (eL e_api_Edge x5))]))] ?_
  refine C_bk 0 ?_
  refine C_hk [(2, (.rp (yv yield0_b))), (9, (.fn (.func 104) [] [(.rp (eL e_api_Edge x5))]))] ?_
  refine C_cut (fun T H => ∃ sg : σ, ∃ t9c0 : (List api_Edge), ∃ G : Gs, Has T [(2, (.rp (yv yield0_b))), (9, (.fn (.func 104) [] [(.rp (eL e_api_Edge t9c0))]))] ∧ Owns ⟨H0, List.map (fun p : Nat × AObj => p.1) G0, G⟩ H [] ∧ I sg G ∧ edge_Groups_1_G_h1 yield0 sg t9c0 = some r) ?_ ⟨sg0, x5, G, .eq (by kernel_rfl), hO, hI, h0⟩
  clear hO hI h0
  rintro T H ⟨sg, t9c0, G, hT, hO, hI, h0⟩
  refine C_has (l := [(2, (.rp (yv yield0_b))), (9, (.fn (.func 104) [] [(.rp (eL e_api_Edge t9c0))]))]) hT ?_
  clear hT
  unfold edge_Groups_1_G_h1 at h0
  obtain ⟨o0, hl0, h0⟩ := bindE h0
  refine C_rangeG (fid := 104) (ys := []) (cs := [(.rp (eL e_api_Edge t9c0))]) #[10, 11] (fun (A : LoopA) (b lL : Nat) (st : (σ) ⊕ (σ)) (G' : Gs) => Sum.elim (fun (s : σ) => ∃ G : Gs, I s G ∧ G' = (lL, .raw (loopS b A .ready none)) :: (up [] ++ G)) (fun (s : σ) => ∃ G : Gs, I s G ∧ G' = (lL, .raw (loopS b A .done (some .ret))) :: (up [] ++ G)) st) (.inl sg) o0 (.tup []) (by kernel_rfl) (by kernel_rfl) (by kernel_rfl) hO (fun _ _ => ⟨G, hI, rfl⟩) ?_ ?_
  · intro b lL
    clear hO hI h0
    refine w_edge_runs_1_G _ b (fun st t10 t11 => rnd (fun (s : σ) => edge_Groups_1_G_l1 yield0 t9c0 s t10 t11) st) ?_ t9c0 _ _ hl0
    intro st t10 t11 st2 rr hr
    obtain ⟨s, rfl, h1, rfl⟩ := rndE hr
    clear hr
    intro Hr Gr hi hg
    obtain ⟨sg, rfl⟩ : ∃ x, x = s := ⟨_, rfl⟩
    dsimp only [Sum.elim_inl] at hi
    obtain ⟨G, hI, rfl⟩ := hi
    replace h1 : edge_Groups_1_G_l1 yield0 t9c0 sg t10 t11 = some st2 := h1
    unfold edge_Groups_1_G_l1 at h1
    obtain ⟨E1, hE, hO⟩ := round_start hg
    refine fcall_yield (yield_of (hO.gm 0 _ rfl).2 (by kernel_rfl) (by kernel_rfl) ?_)
    refine C_hk [(2, (.rp (yv yield0_b))), (9, (.fn (.func 104) [] [(.rp (eL e_api_Edge t9c0))])), (10, (eL e_api_Value t10)), (11, (eL e_api_Jump t11))] ?_
    refine S_al ttOk 1 [9, 10] [(3, (eL e_api_Value t10))] ?_
    refine C_rg ttOk 1 ?_
    refine R_al ?_
    refine E_hk [(2, (.rp (yv yield0_b))), (3, (eL e_api_Value t10)), (4, (eL e_api_Jump t11))] ?_
    refine E_done (⟨rfl, rfl, (hO.gm 0 _ rfl).2, ?_⟩)
    intro o1 ho1
    replace hO := hO.gset o1
    refine C_bk 1 ?_
    refine C_sq ?_
    refine C_rg ttOk 5 ?_
    refine R_pu 3 ?_
    obtain ⟨x7, hx8, h1⟩ := bindE h1
    refine R_callV1 (I := I) (yv yield0_b) [(eL e_api_Value t10), (eL e_api_Jump t11)] (eBool x7.2) (by kernel_rfl) (by kernel_rfl) (yield0_h _ t10 t11 x7.1 x7.2 hx8) hO hI ?_
    intro G H hO hI
    refine R_al ?_
    refine E_tn [(16, (eBool (!x7.2)))] ?_
    refine C_cd h1 (fun h1 => ?_) (fun h1 => ?_)
    · refine C_rt ?_
      refine E_hk [] ?_
      obtain rfl := Option.some.inj h1
      exact E_done (blockA_ret (⟨(round_end hO hE ho1 .dead).1, rfl, _, ⟨G, hI, rfl⟩, (round_end hO hE ho1 _).2⟩))
    refine C_sk ?_
    refine E_hk [] ?_
    obtain rfl := Option.some.inj h1
    exact E_done (blockA_normal (⟨(round_end hO hE ho1 .dead).1, rfl, _, ⟨G, hI, rfl⟩, (round_end hO hE ho1 _).2⟩))
  · intro b lD lL H' G' hi hO
    rcases o0 with s | s
    · dsimp only [Sum.elim_inl] at hi
      obtain ⟨G, hI, rfl⟩ := hi
      replace h0 : (some s) = some r := h0
      obtain ⟨hlL, hO⟩ := after_loop hO
      refine ⟨_, _, hlL, (by intro e; cases e), ?_⟩
      obtain rfl := Option.some.inj h0
      have hD := (hO.gm 0 _ rfl).2
      replace hO := (hO.gset .dead).gdrop
      exact E_done (blockA_normal (QM1 (.inl rfl) hD (rs := []) (xs := []) (x := (.tup [])) (by kernel_rfl) resNil (by kernel_rfl) ⟨rfl, G, hI, hO.endG⟩))
    · dsimp only [Sum.elim_inr] at hi
      obtain ⟨G, hI, rfl⟩ := hi
      replace h0 : (some s) = some r := h0
      obtain ⟨hlL, hO⟩ := after_loop hO
      refine ⟨_, _, hlL, (by intro e; cases e), ?_⟩
      refine C_rt ?_
      obtain rfl := Option.some.inj h0
      have hD := (hO.gm 0 _ rfl).2
      replace hO := (hO.gset .dead).gdrop
      exact E_done (blockA_ret (QM1 (.inr rfl) hD (rs := []) (xs := []) (x := (.tup [])) (by kernel_rfl) resNil (by kernel_rfl) ⟨rfl, G, hI, hO.endG⟩))

theorem w_edge_Jumps (l0 : (List api_Edge)) (r1 : (List api_Value)) (r : (List api_Jump)) (h0 : s_edge_Jumps l0 r1 = some r) : Fine Try.prog 35 [(eL e_api_Edge l0), (eL e_api_Value r1)] (eL e_api_Jump r) := by
  intro H0
  refine F_walkM ttOk Try.func35 (by kernel_rfl) (by kernel_rfl) (by kernel_rfl) ?_
  have hO := Owns.start H0
  unfold s_edge_Jumps at h0
  refine C_sq ?_
  refine C_rg ttOk 2 ?_
  refine R_boxF 1 (eL e_api_Value r1) (by kernel_rfl) (by kernel_rfl) ?_
  refine R_allocZ 1 (.sl true 0 (fun _ => .bad)) (eL e_api_Jump ([])) (by kernel_rfl) (by kernel_rfl) (by kernel_rfl) (subNilL) (by kernel_rfl) (by kernel_rfl) hO ?_
  intro lo1 H hO
  refine R_en ?_
  refine E_ad [1] [(3, (.rp (eL e_api_Value r1))), (4, (.lp lo1 0 0))] ?_
  refine C_sq ?_
  refine C_sq ?_
  refine C_rg ttOk 3 ?_
  refine R_pu 1 ?_
  obtain ⟨x2, hx3, h0⟩ := bindE h0
  refine R_cO 55 [(eL e_api_Value r1)] (eBool x2) (w_row_May r1 _ hx3) hO ?_
  intro H hO
  refine R_al ?_
  refine E_ad [] [(9, (eBool (!x2)))] ?_
  refine C_cd h0 (fun h0 => ?_) (fun h0 => ?_)
  · refine C_sq ?_
    refine C_rg ttOk 1 ?_
    refine R_sO 0 lo1 1 0 (eL e_api_Jump ([])) (.sl true 0 (fun _ => .bad)) [(eL e_api_Jump ([]))] [(lo1, 1, [(.sl true 0 (fun _ => .bad))])] hO rfl (by kernel_rfl) ?_
    intro H hO
    refine R_en ?_
    refine E_weaken 0 lo1 1 (.sl true 0 (fun _ => .bad)) (eL e_api_Jump ([])) [(lo1, 1, [(eL e_api_Jump ([]))])] hO (by kernel_rfl) (by kernel_rfl) subNilL (by kernel_rfl) ?_
    intro H hO
    refine E_tn [(4, (.lp lo1 0 0))] ?_
    refine C_rt ?_
    obtain rfl := Option.some.inj h0
    exact E_done (thenA_ret (QM0 (.inr rfl) (rs := [.cell 4 31]) (xs := [(eL e_api_Jump ([]))]) (x := (eL e_api_Jump ([]))) (by kernel_rfl) (resCell (lo := lo1) (k := 1) (y := (eL e_api_Jump ([]))) (x := (eL e_api_Jump ([]))) 0 hO (by kernel_rfl) (by kernel_rfl) (by kernel_rfl) (by kernel_rfl) resNil) (by kernel_rfl) ⟨rfl, hO.out⟩))
  refine C_sk ?_
  refine E_tn [(0, (eL e_api_Edge l0)), (3, (.rp (eL e_api_Value r1))), (4, (.lp lo1 0 0))] ?_
  refine C_sq ?_
  refine C_sq ?_
  refine C_rg ttOk 2 ?_
  refine R_pu 1 ?_
  obtain ⟨x6, hx7, h0⟩ := bindE h0
  refine R_cO 28 [(eL e_api_Edge l0)] (.fn (.func 69) [] [(.rp (eL e_api_Edge x6))]) (w_edge_Groups l0 _ hx7) hO ?_
  intro H hO
  refine R_en ?_
  refine E_ad [0] [(11, (.fn (.func 69) [] [(.rp (eL e_api_Edge x6))]))] ?_
  refine C_bk 0 ?_
  refine C_hk [(3, (.rp (eL e_api_Value r1))), (4, (.lp lo1 0 0)), (11, (.fn (.func 69) [] [(.rp (eL e_api_Edge x6))]))] ?_
  refine C_cut (fun T H => ∃ r3 : (List api_Value), ∃ t4 : (List api_Jump), ∃ t11c0 : (List api_Edge), ∃ lo8 : Nat, Has T [(3, (.rp (eL e_api_Value r3))), (4, (.lp lo8 0 0)), (11, (.fn (.func 69) [] [(.rp (eL e_api_Edge t11c0))]))] ∧ Owns ⟨H0, [], []⟩ H [(lo8, 1, [(eL e_api_Jump t4)])] ∧ edge_Jumps_h1 r3 t4 t11c0 = some r) ?_ ⟨r1, [], x6, lo1, .eq (by kernel_rfl), hO, h0⟩
  clear hO h0
  rintro T H ⟨r3, t4, t11c0, lo8, hT, hO, h0⟩
  refine C_has (l := [(3, (.rp (eL e_api_Value r3))), (4, (.lp lo8 0 0)), (11, (.fn (.func 69) [] [(.rp (eL e_api_Edge t11c0))]))]) hT ?_
  clear hT
  unfold edge_Jumps_h1 at h0
  obtain ⟨o0, hl0, h0⟩ := bindE h0
  refine C_rangeG (fid := 69) (ys := []) (cs := [(.rp (eL e_api_Edge t11c0))]) #[12, 13] (fun (A : LoopA) (b lL : Nat) (st : ((List api_Jump)) ⊕ ((List api_Jump))) (G' : Gs) => Sum.elim (fun (s : (List api_Jump)) => G' = (lL, .raw (loopS b A .ready none)) :: (up [(lo8, 1, [(eL e_api_Jump s)])] ++ [])) (fun (s : (List api_Jump)) => G' = (lL, .raw (loopS b A .done (some .ret))) :: (up [(lo8, 1, [(eL e_api_Jump s)])] ++ [])) st) (.inl t4) o0 (.tup []) (by kernel_rfl) (by kernel_rfl) (by kernel_rfl) hO (fun _ _ => rfl) ?_ ?_
  · intro b lL
    clear hO h0
    refine w_edge_Groups_1_G _ b (fun st t12 t13 => rnd (fun (s : (List api_Jump)) => edge_Jumps_l1 r3 t11c0 s t12 t13) st) ?_ t11c0 _ _ hl0
    intro st t12 t13 st2 rr hr
    obtain ⟨s, rfl, h1, rfl⟩ := rndE hr
    clear hr
    intro Hr Gr hi hg
    obtain ⟨t4, rfl⟩ : ∃ x, x = s := ⟨_, rfl⟩
    dsimp only [Sum.elim_inl] at hi
    obtain rfl := hi
    replace h1 : edge_Jumps_l1 r3 t11c0 t4 t12 t13 = some st2 := h1
    unfold edge_Jumps_l1 at h1
    obtain ⟨E1, hE, hO⟩ := round_start hg
    refine fcall_yield (yield_of (hO.gm 0 _ rfl).2 (by kernel_rfl) (by kernel_rfl) ?_)
    refine C_hk [(3, (.rp (eL e_api_Value r3))), (4, (.lp lo8 0 0)), (11, (.fn (.func 69) [] [(.rp (eL e_api_Edge t11c0))])), (12, (eL e_api_Value t12)), (13, (eL e_api_Jump t13))] ?_
    refine S_al ttOk 1 [11, 12] [(5, (eL e_api_Value t12))] ?_
    refine C_rg ttOk 1 ?_
    refine R_al ?_
    refine E_hk [(3, (.rp (eL e_api_Value r3))), (4, (.lp lo8 0 0)), (5, (eL e_api_Value t12)), (6, (eL e_api_Jump t13))] ?_
    refine E_done (⟨rfl, rfl, (hO.gm 0 _ rfl).2, ?_⟩)
    intro o1 ho1
    replace hO := hO.gset o1
    refine C_bk 1 ?_
    refine C_sq ?_
    refine C_rg ttOk 3 ?_
    refine R_pu 2 ?_
    obtain ⟨x9, hx10, h1⟩ := bindE h1
    refine R_cO 77 [(eL e_api_Value t12), (eL e_api_Value r3)] (eBool x9) (w_row_Same t12 r3 _ hx10) hO ?_
    intro H hO
    refine R_en ?_
    refine E_ad [3, 5] [(16, (eBool x9))] ?_
    refine C_cd h1 (fun h1 => ?_) (fun h1 => ?_)
    · refine C_sq ?_
      refine C_rg ttOk 2 ?_
      refine R_pu 1 ?_
      refine R_sO 0 lo8 1 0 (eL e_api_Jump t4) (eL e_api_Jump t13) [(eL e_api_Jump t4)] [(lo8, 1, [(eL e_api_Jump t13)])] hO rfl (by kernel_rfl) ?_
      intro H hO
      refine R_en ?_
      refine E_tn [(4, (.lp lo8 0 0))] ?_
      refine C_rt ?_
      refine E_hk [(4, (.lp lo8 0 0))] ?_
      obtain rfl := Option.some.inj h1
      exact E_done (blockA_ret (⟨(round_end hO hE ho1 .dead).1, rfl, _, rfl, (round_end hO hE ho1 _).2⟩))
    refine C_sk ?_
    refine E_hk [(4, (.lp lo8 0 0))] ?_
    obtain rfl := Option.some.inj h1
    exact E_done (blockA_normal (⟨(round_end hO hE ho1 .dead).1, rfl, _, rfl, (round_end hO hE ho1 _).2⟩))
  · intro b lD lL H' G' hi hO
    rcases o0 with s | s
    · dsimp only [Sum.elim_inl] at hi
      obtain rfl := hi
      replace h0 : (some ([])) = some r := h0
      obtain ⟨hlL, hO⟩ := after_loop hO
      refine ⟨_, _, hlL, (by intro e; cases e), ?_⟩
      refine E_hk [(4, (.lp lo8 0 0))] ?_
      refine E_done (blockA_normal (thenA_normal (?_)))
      refine C_sq ?_
      refine C_rg ttOk 1 ?_
      refine R_sO 0 lo8 1 0 (eL e_api_Jump s) (.sl true 0 (fun _ => .bad)) [(eL e_api_Jump s)] [(lo8, 1, [(.sl true 0 (fun _ => .bad))])] hO rfl (by kernel_rfl) ?_
      intro H hO
      refine R_en ?_
      refine E_weaken 0 lo8 1 (.sl true 0 (fun _ => .bad)) (eL e_api_Jump ([])) [(lo8, 1, [(eL e_api_Jump ([]))])] hO (by kernel_rfl) (by kernel_rfl) subNilL (by kernel_rfl) ?_
      intro H hO
      refine E_tn [(4, (.lp lo8 0 0))] ?_
      refine C_rt ?_
      obtain rfl := Option.some.inj h0
      have hD := (hO.gm 0 _ rfl).2
      replace hO := (hO.gset .dead).gdrop
      exact E_done (QM1 (.inr rfl) hD (rs := [.cell 4 31]) (xs := [(eL e_api_Jump ([]))]) (x := (eL e_api_Jump ([]))) (by kernel_rfl) (resCell (lo := lo8) (k := 1) (y := (eL e_api_Jump ([]))) (x := (eL e_api_Jump ([]))) 0 hO (by kernel_rfl) (by kernel_rfl) (by kernel_rfl) (by kernel_rfl) resNil) (by kernel_rfl) ⟨rfl, hO.out⟩)
    · dsimp only [Sum.elim_inr] at hi
      obtain rfl := hi
      replace h0 : (some s) = some r := h0
      obtain ⟨hlL, hO⟩ := after_loop hO
      refine ⟨_, _, hlL, (by intro e; cases e), ?_⟩
      refine C_rt ?_
      obtain rfl := Option.some.inj h0
      have hD := (hO.gm 0 _ rfl).2
      replace hO := (hO.gset .dead).gdrop
      exact E_done (blockA_ret (thenA_ret (QM1 (.inr rfl) hD (rs := [.cell 4 31]) (xs := [(eL e_api_Jump s)]) (x := (eL e_api_Jump s)) (by kernel_rfl) (resCell (lo := lo8) (k := 1) (y := (eL e_api_Jump s)) (x := (eL e_api_Jump s)) 0 hO (by kernel_rfl) (by kernel_rfl) (by kernel_rfl) (by kernel_rfl) resNil) (by kernel_rfl) ⟨rfl, hO.out⟩)))

theorem w_ref09_Same (f0 : (List api_Jump)) (g1 : (List api_Jump)) (r : Bool) (h0 : s_ref09_Same f0 g1 = some r) : Fine Try.prog 34 [(eL e_api_Jump f0), (eL e_api_Jump g1)] (eBool r) := by
  intro H0
  refine F_wk Try.func34 ?_
  have hO := Owns.start H0
  unfold s_ref09_Same at h0
  refine S_al ttOk 1 [] [] ?_
  refine C_sq ?_
  refine S_al ttOk 5 [] [(10, (eBool (!decide (((List.length f0 : Nat) : Int) = ((List.length g1 : Nat) : Int)))))] ?_
  refine C_cd h0 (fun h0 => ?_) (fun h0 => ?_)
  · refine S_tn ttOk 1 [(4, (eBool false))] ?_
    refine C_rt ?_
    obtain rfl := Option.some.inj h0
    exact E_done (thenA_ret (Q_ret (x := (eBool false)) (by kernel_rfl) (SubV.refl _) ⟨rfl, hO.out⟩))
  refine C_sk ?_
  refine E_tn [(0, (eL e_api_Jump f0)), (1, (eL e_api_Jump g1))] ?_
  refine C_sj (fun T H => Has T [] ∧ Owns ⟨H0, [], []⟩ H [] ∧ ref09_Same_j1  = some r) ?_ ?_
  · clear hO h0
    rintro T H ⟨hT, hO, h0⟩
    refine C_has hT ?_
    clear hT
    unfold ref09_Same_j1 at h0
    refine S_tn ttOk 1 [(4, (eBool true))] ?_
    refine C_rt ?_
    obtain rfl := Option.some.inj h0
    exact E_done (Q_ret (x := (eBool true)) (by kernel_rfl) (SubV.refl _) ⟨rfl, hO.out⟩)
  refine S_al ttOk 1 [] [(5, (eInt .i64 (0 : Int)))] ?_
  refine C_bk 0 ?_
  refine C_hk [(0, (eL e_api_Jump f0)), (1, (eL e_api_Jump g1)), (5, (eInt .i64 (0 : Int)))] ?_
  refine C_cut (fun T H => ∃ i5 : Int, Has T [(0, (eL e_api_Jump f0)), (1, (eL e_api_Jump g1)), (5, (eInt .i64 i5))] ∧ Owns ⟨H0, [], []⟩ H [] ∧ ref09_Same_h2 f0 g1 i5 = some r) ?_ ⟨(0 : Int), .eq (by kernel_rfl), hO, h0⟩
  clear hO h0
  rintro T H ⟨i5, hT, hO, h0⟩
  refine C_has hT ?_
  clear hT
  unfold ref09_Same_h2 at h0
  obtain ⟨rr0, hl0, h0⟩ := bindE h0
  refine C_loopS (by kernel_rfl) (fun (s : Int) T H => Has T [(0, (eL e_api_Jump f0)), (1, (eL e_api_Jump g1)), (5, (eInt .i64 s))] ∧ Owns ⟨H0, [], []⟩ H []) hl0 ⟨.eq (by kernel_rfl), hO⟩ ?_
  clear hO
  rintro k0 s out1 T H ⟨hT, hO⟩ h1 ho0
  obtain ⟨i5, rfl⟩ : ∃ x, x = s := ⟨_, rfl⟩
  replace h1 : ref09_Same_l2 f0 g1 i5 = some out1 := h1
  refine C_has hT ?_
  clear hT
  unfold ref09_Same_l2 at h1
  refine C_sq ?_
  refine S_al ttOk 4 [] [(14, (eBool (decide (i5 < ((List.length f0 : Nat) : Int)))))] ?_
  refine C_cd h1 (fun h1 => ?_) (fun h1 => ?_)
  · refine C_sk ?_
    refine E_tn [(0, (eL e_api_Jump f0)), (1, (eL e_api_Jump g1)), (5, (eInt .i64 i5))] ?_
    refine C_sq ?_
    refine C_bk 1 ?_
    refine C_sq ?_
    refine C_dg (plOf [20, 24]) ttOk 9 ?_
    obtain ⟨c3, h1⟩ := asrtE h1
    obtain ⟨c4, h1⟩ := asrtE h1
    refine D_all (Ds := [0 ≤ i5 ∧ i5 < ((List.length f0 : Nat) : Int), 0 ≤ i5 ∧ i5 < ((List.length g1 : Nat) : Int)]) (by kernel_rfl) ⟨c3, c4, trivial⟩ ?_
    refine E_ad [] [(25, (eBool (!((decide (((List.getD f0 (Int.toNat i5) default).At) = ((List.getD g1 (Int.toNat i5) default).At))) && ((decide (((List.getD f0 (Int.toNat i5) default).Net) = ((List.getD g1 (Int.toNat i5) default).Net))) && true)))))] ?_
    refine C_cd h1 (fun h1 => ?_) (fun h1 => ?_)
    · refine S_tn ttOk 1 [(4, (eBool false))] ?_
      refine C_rt ?_
      obtain rfl := Option.some.inj h1
      obtain rfl : _ = rr0 := ho0
      replace h0 : some false = some r := h0
      obtain rfl := Option.some.inj h0
      exact E_done (blockA_ret (thenA_ret (thenA_ret (blockA_ret (thenA_ret (Q_ret (x := (eBool false)) (by kernel_rfl) (SubV.refl _) ⟨rfl, hO.out⟩))))))
    refine C_sk ?_
    refine E_hk [(0, (eL e_api_Jump f0)), (1, (eL e_api_Jump g1)), (5, (eInt .i64 i5))] ?_
    refine E_done (blockA_normal (thenA_normal (?_)))
    refine C_rg ttOk 3 ?_
    refine R_al ?_
    exact E_done (thenA_normal (⟨rfl, IntKind.i64.wrap (i5 + (1 : Int)), (Option.some.inj h1).symm, .eq (by kernel_rfl), hO⟩))
  refine C_ex 0 ?_
  obtain rfl := Option.some.inj h1
  obtain rfl : _ = rr0 := ho0
  replace h0 : ref09_Same_j1  = some r := h0
  exact E_done (thenA_exit (thenA_exit (blockA_hit (thenA_normal (⟨rfl, .eq (by kernel_rfl), hO, h0⟩)))))

theorem w_edge_Build (r0 : (List api_Value)) (f1 : (List api_Jump)) (r : (List api_Edge)) (h0 : s_edge_Build r0 f1 = some r) : Fine Try.prog 36 [(eL e_api_Value r0), (eL e_api_Jump f1)] (eL e_api_Edge r) := by
  intro H0
  refine F_wk Try.func36 ?_
  have hO := Owns.start H0
  unfold s_edge_Build at h0
  refine S_al ttOk 1 [] [] ?_
  refine C_sq ?_
  refine C_sq ?_
  refine C_rg ttOk 8 ?_
  refine R_pu 1 ?_
  obtain ⟨x1, hx2, h0⟩ := bindE h0
  refine R_cO 55 [(eL e_api_Value r0)] (eBool x1) (w_row_May r0 _ hx2) hO ?_
  intro H hO
  refine R_pu 5 ?_
  obtain ⟨x4, hx5, h0⟩ := bindE h0
  refine R_callO [(8, false)] 51 [(eL e_api_Jump f1)] (eBool x4) (!(!x1)) (by kernel_rfl) (by kernel_rfl) (by kernel_rfl) (fun hb6 => (w_step_May f1 _ (gcallE hx5 hb6))) hO ?_
  intro H hO
  refine R_al ?_
  refine E_ad [] [(12, (eBool ((!x1) || (!x4))))] ?_
  refine C_cd h0 (fun h0 => ?_) (fun h0 => ?_)
  · refine S_tn ttOk 1 [(4, (.sl true 0 (fun _ => .bad)))] ?_
    refine C_rt ?_
    refine E_has (l := [(4, (eL e_api_Edge ([])))]) ⟨[(4, (.sl true 0 (fun _ => .bad)))], by kernel_rfl, rfl, ⟨subNilL, trivial⟩⟩ ?_
    obtain rfl := Option.some.inj h0
    exact E_done (thenA_ret (Q_ret (x := (eL e_api_Edge ([]))) (by kernel_rfl) (SubV.refl _) ⟨rfl, hO.out⟩))
  refine C_sk ?_
  refine E_tn [(0, (eL e_api_Value r0)), (1, (eL e_api_Jump f1))] ?_
  refine C_sq ?_
  refine C_rg ttOk 4 ?_
  refine R_pu 2 ?_
  obtain ⟨x8, hx9, h0⟩ := bindE h0
  refine R_callP (L' := fun lo10 => [(lo10, 3, List.map e_api_Edge x8)]) 3 (List.map e_api_Edge x8) 78 [(.sl true 0 (fun _ => .bad)), (eL e_api_Value r0), (eL e_api_Jump f1)] (fun lo10 => (.msl 3 lo10 0 (List.length x8))) (by kernel_rfl) (by kernel_rfl) (FineA.nil (pre := []) (post := [(eL e_api_Value r0), (eL e_api_Jump f1)]) (fun lo => (w_edge_put lo [] r0 f1 _ hx9))) hO (fun _ => by kernel_rfl) ?_
  intro lo10 H hO
  refine R_al ?_
  refine E_tn [(4, (.msl 3 lo10 0 (List.length x8)))] ?_
  refine C_rt ?_
  refine E_hk [(4, (.msl 3 lo10 0 (List.length x8)))] ?_
  refine E_freezeO (en := e_api_Edge) x8 0 0 4 3 lo10 (List.length x8) hO (by kernel_rfl) (by kernel_rfl) (by kernel_rfl) (L' := []) (by kernel_rfl) ?_
  intro H11 hO
  obtain rfl := Option.some.inj h0
  exact E_done (Q_ret (x := (eL e_api_Edge x8)) (by kernel_rfl) (SubV.refl _) ⟨rfl, hO.out⟩)

theorem w_law10_EdgeRows (l0 : (List api_Edge)) (r1 : (List api_Value)) (f2 : (List api_Jump)) (r : Bool) (h0 : s_law10_EdgeRows l0 r1 f2 = some r) : Fine Try.prog 8 [(eL e_api_Edge l0), (eL e_api_Value r1), (eL e_api_Jump f2)] (eBool r) := by
  intro H0
  refine F_wk Try.func8 ?_
  have hO := Owns.start H0
  unfold s_law10_EdgeRows at h0
  refine S_al ttOk 1 [] [] ?_
  refine C_sq ?_
  refine C_sq ?_
  refine C_rg ttOk 3 ?_
  refine R_pu 1 ?_
  obtain ⟨x1, hx2, h0⟩ := bindE h0
  refine R_cO 21 [(eL e_api_Edge l0)] (eBool x1) (w_law10_few l0 _ hx2) hO ?_
  intro H hO
  refine R_al ?_
  refine E_ad [] [(11, (eBool (!x1)))] ?_
  refine C_cd h0 (fun h0 => ?_) (fun h0 => ?_)
  · refine C_sq ?_
    refine C_rg ttOk 2 ?_
    obtain ⟨x5, hx6, h0⟩ := bindE h0
    refine R_cO 22 [] (eBool x5) (w_law10_live  _ hx6) hO ?_
    intro H hO
    refine R_al ?_
    refine E_tn [(6, (eBool x5))] ?_
    refine C_rt ?_
    obtain rfl := Option.some.inj h0
    exact E_done (thenA_ret (Q_ret (x := (eBool x5)) (by kernel_rfl) (SubV.refl _) ⟨rfl, hO.out⟩))
  refine C_sk ?_
  refine E_tn [(0, (eL e_api_Edge l0)), (1, (eL e_api_Value r1)), (2, (eL e_api_Jump f2))] ?_
  refine C_sq ?_
  refine C_rg ttOk 2 ?_
  refine R_bsl (xs := []) (k := 2) (by kernel_rfl) (by kernel_rfl) ?_
  refine R_al ?_
  refine E_ad [] [(7, (.sl true 0 (fun _ => .bad)))] ?_
  refine C_sj (fun T H => ∃ want7 : (List api_Jump), Has T [(0, (eL e_api_Edge l0)), (1, (eL e_api_Value r1)), (2, (eL e_api_Jump f2)), (7, (eL e_api_Jump want7))] ∧ Owns ⟨H0, [], []⟩ H [] ∧ law10_EdgeRows_j1 l0 r1 f2 want7 = some r) ?_ ?_
  · clear hO h0
    rintro T H ⟨want7, hT, hO, h0⟩
    refine C_has hT ?_
    clear hT
    unfold law10_EdgeRows_j1 at h0
    refine C_sq ?_
    refine C_rg ttOk 2 ?_
    refine R_bsl (xs := []) (k := 3) (by kernel_rfl) (by kernel_rfl) ?_
    refine R_al ?_
    refine E_ad [] [(8, (.sl true 0 (fun _ => .bad)))] ?_
    refine C_sj (fun T H => ∃ made8 : List api_Edge, ∃ lo8 : Nat, Has T [(0, (eL e_api_Edge l0)), (1, (eL e_api_Value r1)), (2, (eL e_api_Jump f2)), (7, (eL e_api_Jump want7)), (8, (.msl 3 lo8 0 (List.length made8)))] ∧ Owns ⟨H0, [], []⟩ H [(lo8, 3, List.map e_api_Edge made8)] ∧ law10_EdgeRows_j2 l0 r1 f2 want7 made8 = some r) ?_ ?_
    · clear hO h0
      rintro T H ⟨made8, lo8, hT, hO, h0⟩
      refine C_has hT ?_
      clear hT
      unfold law10_EdgeRows_j2 at h0
      refine C_sq ?_
      refine C_rg ttOk 16 ?_
      refine R_freezeO (e := e_api_Edge) made8 0 8 3 lo8 (List.length made8) [] (by kernel_rfl) hO (by kernel_rfl) (by kernel_rfl) (by kernel_rfl) (by kernel_rfl) ?_
      intro H hO
      obtain ⟨x21, hx22, h0⟩ := bindE h0
      refine R_cO 22 [] (eBool x21) (w_law10_live  _ hx22) hO ?_
      intro H hO
      refine R_pu 4 ?_
      obtain ⟨x24, hx25, h0⟩ := bindE h0
      refine R_callO [(34, true)] 35 [(eL e_api_Edge l0), (eL e_api_Value r1)] (eL e_api_Jump x24) x21 (by kernel_rfl) (by kernel_rfl) (by kernel_rfl) (fun hb26 => (w_edge_Jumps l0 r1 _ (gcallE hx25 hb26))) hO ?_
      intro H hO
      refine R_pu 6 ?_
      obtain ⟨x27, hx28, h0⟩ := bindE h0
      refine R_callO [(34, true)] 34 [(eL e_api_Jump x24), (eL e_api_Jump want7)] (eBool x27) x21 (by kernel_rfl) (by kernel_rfl) (by kernel_rfl) (fun hb29 => (w_ref09_Same x24 want7 _ (gcallE hx28 hb29))) hO ?_
      intro H hO
      refine R_pu 11 ?_
      obtain ⟨x30, hx31, h0⟩ := bindE h0
      refine R_callO [(41, true)] 36 [(eL e_api_Value r1), (eL e_api_Jump f2)] (eL e_api_Edge x30) (x21 && x27) (by kernel_rfl) (by kernel_rfl) (by kernel_rfl) (fun hb32 => (w_edge_Build r1 f2 _ (gcallE hx31 hb32))) hO ?_
      intro H hO
      refine R_pu 13 ?_
      obtain ⟨x33, hx34, h0⟩ := bindE h0
      refine R_callO [(41, true)] 16 [(eL e_api_Edge x30), (eL e_api_Edge made8)] (eBool x33) (x21 && x27) (by kernel_rfl) (by kernel_rfl) (by kernel_rfl) (fun hb35 => (w_ref10_Same x30 made8 _ (gcallE hx34 hb35))) hO ?_
      intro H hO
      refine R_al ?_
      refine E_tn [(6, (eBool ((x21 && x27) && x33)))] ?_
      refine C_rt ?_
      obtain rfl := Option.some.inj h0
      exact E_done (Q_ret (x := (eBool ((x21 && x27) && x33))) (by kernel_rfl) (SubV.refl _) ⟨rfl, hO.out⟩)
    refine C_sq ?_
    refine C_rg ttOk 6 ?_
    refine R_pu 1 ?_
    obtain ⟨x36, hx37, h0⟩ := bindE h0
    refine R_cO 33 [(eL e_api_Jump f2)] (eBool x36) (w_ref09_May f2 _ hx37) hO ?_
    intro H hO
    refine R_pu 4 ?_
    obtain ⟨x39, hx40, h0⟩ := bindE h0
    refine R_callO [(26, true)] 32 [(eL e_api_Value r1)] (eBool x39) x36 (by kernel_rfl) (by kernel_rfl) (by kernel_rfl) (fun hb41 => (w_ref06_May r1 _ (gcallE hx40 hb41))) hO ?_
    intro H hO
    refine R_al ?_
    refine E_ad [] [(29, (eBool (x36 && x39)))] ?_
    refine C_cd h0 (fun h0 => ?_) (fun h0 => ?_)
    · refine C_rg ttOk 4 ?_
      refine R_pu 2 ?_
      obtain ⟨x43, hx44, h0⟩ := bindE h0
      refine R_callP (L' := fun lo45 => [(lo45, 3, List.map e_api_Edge x43)]) 3 (List.map e_api_Edge x43) 29 [(.sl true 0 (fun _ => .bad)), (eL e_api_Value r1), (eL e_api_Jump f2)] (fun lo45 => (.msl 3 lo45 0 (List.length x43))) (by kernel_rfl) (by kernel_rfl) (FineA.nil (pre := []) (post := [(eL e_api_Value r1), (eL e_api_Jump f2)]) (fun lo => (w_ref10_Put lo [] r1 f2 _ hx44))) hO (fun _ => by kernel_rfl) ?_
      intro lo45 H hO
      refine R_al ?_
      exact E_done (thenA_normal (⟨rfl, x43, lo45, .eq (by kernel_rfl), hO, h0⟩))
    refine C_sk ?_
    refine E_hk [(0, (eL e_api_Edge l0)), (1, (eL e_api_Value r1)), (2, (eL e_api_Jump f2)), (7, (eL e_api_Jump want7)), (8, (.sl true 0 (fun _ => .bad)))] ?_
    refine E_ownO (el := (fun _ => .bad)) 4 8 3 hO (by kernel_rfl) ?_
    intro lo46 H47 hO
    exact E_done (thenA_normal (⟨rfl, ([] : List api_Edge), lo46, .eq (by kernel_rfl), hO, h0⟩))
  refine C_sq ?_
  refine C_rg ttOk 6 ?_
  refine R_pu 1 ?_
  obtain ⟨x48, hx49, h0⟩ := bindE h0
  refine R_cO 27 [(eL e_api_Edge l0)] (eBool x48) (w_ref10_May l0 _ hx49) hO ?_
  intro H hO
  refine R_pu 4 ?_
  obtain ⟨x51, hx52, h0⟩ := bindE h0
  refine R_callO [(16, true)] 32 [(eL e_api_Value r1)] (eBool x51) x48 (by kernel_rfl) (by kernel_rfl) (by kernel_rfl) (fun hb53 => (w_ref06_May r1 _ (gcallE hx52 hb53))) hO ?_
  intro H hO
  refine R_al ?_
  refine E_ad [] [(19, (eBool (x48 && x51)))] ?_
  refine C_cd h0 (fun h0 => ?_) (fun h0 => ?_)
  · refine C_rg ttOk 4 ?_
    refine R_pu 2 ?_
    obtain ⟨x55, hx56, h0⟩ := bindE h0
    refine R_cO 19 [(eL e_api_Edge l0), (eL e_api_Value r1)] (eL e_api_Jump x55) (w_ref10_Jumps l0 r1 _ hx56) hO ?_
    intro H hO
    refine R_al ?_
    exact E_done (thenA_normal (⟨rfl, x55, .eq (by kernel_rfl), hO, h0⟩))
  refine C_sk ?_
  refine E_has (l := [(0, (eL e_api_Edge l0)), (1, (eL e_api_Value r1)), (2, (eL e_api_Jump f2)), (7, (eL e_api_Jump ([])))]) ⟨[(0, (eL e_api_Edge l0)), (1, (eL e_api_Value r1)), (2, (eL e_api_Jump f2)), (7, (.sl true 0 (fun _ => .bad)))], by kernel_rfl, rfl, ⟨SubV.refl _, SubV.refl _, SubV.refl _, subNilL, trivial⟩⟩ ?_
  exact E_done (thenA_normal (⟨rfl, [], .eq (by kernel_rfl), hO, h0⟩))

end Go.Abs
namespace Go.Abs
open Go Go.RowKit Go.Proofs
theorem opens_api_Value_60 {H : Type} {enc : TypeId × Value → H} {w : World} : Opens enc Try.prog w 60 e_api_Value ok_api_Value :=
  opens_struct Try.underlying60 (by kernel_rfl) (opensF_cons (c' := c_api_Value) (ok' := ok_api_Value) (fun (a : Int) (b : Int × ByteArray × Unit) => (api_Value.mk a b.1 b.2.1 : api_Value)) (by kernel_rfl) (opens_i64 Try.underlying58) (opensF_cons (c' := fun (b : Int × ByteArray × Unit) => (V.cells (eInt .i64 b.1) ++ (V.cells (eStr b.2.1) ++ []))) (ok' := fun b => (in64 b.1 ∧ ((fun s => s.size ≤ maxLen) b.2.1 ∧ True))) (fun a b => (a, b)) (by kernel_rfl) (opens_i64 Try.underlying3) (opensF_cons (c' := fun (b : ByteArray × Unit) => (V.cells (eStr b.1) ++ [])) (ok' := fun b => ((fun s => s.size ≤ maxLen) b.1 ∧ True)) (fun a b => (a, b)) (by kernel_rfl) (opens_string Try.underlying9) (opensF_nil ()) (fun _ _ => rfl) (fun _ _ h1 h2 => ⟨h1, h2⟩)) (fun _ _ => rfl) (fun _ _ h1 h2 => ⟨h1, h2⟩)) (fun _ _ => rfl) (fun _ _ h1 h2 => ⟨h1, h2⟩))

theorem opens_api_Edge_36 {H : Type} {enc : TypeId × Value → H} {w : World} : Opens enc Try.prog w 36 e_api_Edge ok_api_Edge :=
  opens_struct Try.underlying36 (by kernel_rfl) (opensF_cons (c' := c_api_Edge) (ok' := ok_api_Edge) (fun (a : (List api_Value)) (b : Int × Int × Unit) => (api_Edge.mk a b.1 b.2.1 : api_Edge)) (by kernel_rfl) (opens_slice Try.underlying34 (by decide +kernel) (fun _ => by kernel_rfl) (fun _ => rfl) opens_api_Value_60 (by kernel_rfl)) (opensF_cons (c' := fun (b : Int × Int × Unit) => (V.cells (eInt .i64 b.1) ++ (V.cells (eInt .i64 b.2.1) ++ []))) (ok' := fun b => (in64 b.1 ∧ (in64 b.2.1 ∧ True))) (fun a b => (a, b)) (by kernel_rfl) (opens_i64 Try.underlying3) (opensF_cons (c' := fun (b : Int × Unit) => (V.cells (eInt .i64 b.1) ++ [])) (ok' := fun b => (in64 b.1 ∧ True)) (fun a b => (a, b)) (by kernel_rfl) (opens_i64 Try.underlying3) (opensF_nil ()) (fun _ _ => rfl) (fun _ _ h1 h2 => ⟨h1, h2⟩)) (fun _ _ => rfl) (fun _ _ h1 h2 => ⟨h1, h2⟩)) (fun _ _ => rfl) (fun _ _ h1 h2 => ⟨h1, h2⟩))

theorem opens_api_Jump_67 {H : Type} {enc : TypeId × Value → H} {w : World} : Opens enc Try.prog w 67 e_api_Jump ok_api_Jump :=
  opens_struct Try.underlying67 (by kernel_rfl) (opensF_cons (c' := c_api_Jump) (ok' := ok_api_Jump) (fun (a : Int) (b : Int × Unit) => (api_Jump.mk a b.1 : api_Jump)) (by kernel_rfl) (opens_i64 Try.underlying3) (opensF_cons (c' := fun (b : Int × Unit) => (V.cells (eInt .i64 b.1) ++ [])) (ok' := fun b => (in64 b.1 ∧ True)) (fun a b => (a, b)) (by kernel_rfl) (opens_i64 Try.underlying3) (opensF_nil ()) (fun _ _ => rfl) (fun _ _ h1 h2 => ⟨h1, h2⟩)) (fun _ _ => rfl) (fun _ _ h1 h2 => ⟨h1, h2⟩))

end Go.Abs
namespace Go.Abs
open Go
theorem wrap_in {n : Int} (h1 : -9223372036854775808 ≤ n) (h2 : n ≤ 9223372036854775807) : IntKind.i64.wrap n = n := by
  simp only [IntKind.wrap, IntKind.bits, IntKind.signed]
  simp
  split <;> omega

/-- A list gone through, with an end in its midst. -/
def foldE {α st R : Type} (step : st → α → Option (st ⊕ R)) (fin : st → R) : st → List α → Option R
  | s, [] => some (fin s)
  | s, a :: r => match step s a with
    | some (.inl s') => foldE step fin s' r
    | some (.inr x) => some x
    | none => none

theorem foldE_next {α st R : Type} {step : st → α → Option (st ⊕ R)} {fin : st → R} {s s' : st} {a : α} {r : List α} (h : step s a = some (.inl s')) : foldE step fin s (a :: r) = foldE step fin s' r := by
  simp only [foldE, h]

theorem foldE_last {α st R : Type} {step : st → α → Option (st ⊕ R)} {fin : st → R} {s : st} {x : R} {a : α} {r : List α} (h : step s a = some (.inr x)) : foldE step fin s (a :: r) = some x := by
  simp only [foldE, h]

/-- A loop over a list, by its index. -/
theorem lp_list {α S st R : Type} {body : S → Option (S ⊕ R)} {l : List α} (mk : st → Int → S) (step : st → α → Option (st ⊕ R)) (fin : st → R)
    (hn : ∀ (i : Nat) a s, l[i]? = some a → (∀ s', step s a = some (.inl s') → body (mk s i) = some (.inl (mk s' ((i + 1 : Nat) : Int)))) ∧ (∀ x, step s a = some (.inr x) → body (mk s i) = some (.inr x)))
    (he : ∀ s, body (mk s (l.length : Nat)) = some (.inr (fin s))) : ∀ (m k : Nat) (s : st) (r : R), l.length - k = m → k ≤ l.length → foldE step fin s (l.drop k) = some r → lp body (mk s k) = some r
  | 0, k, s, r, hm, hk, h => by
    have : k = l.length := by omega
    subst this
    rw [List.drop_length] at h
    simp only [foldE, Option.some.injEq] at h
    subst h
    exact lp_last (he s)
  | m + 1, k, s, r, hm, hk, h => by
    have hlt : k < l.length := by omega
    have hd : l.drop k = l[k] :: l.drop (k + 1) := List.drop_eq_getElem_cons hlt
    rw [hd] at h
    simp only [foldE] at h
    obtain ⟨h1, h2⟩ := hn k l[k] s (List.getElem?_eq_getElem hlt)
    split at h
    · rename_i s' hs
      rw [lp_next (h1 s' hs)]
      exact lp_list mk step fin hn he m (k + 1) s' r (by omega) (by omega) h
    · rename_i x hs
      simp at h; subst h
      exact lp_last (h2 x hs)
    · cases h

theorem lp_list0 {α S st R : Type} {body : S → Option (S ⊕ R)} {l : List α} (mk : st → Int → S) (step : st → α → Option (st ⊕ R)) (fin : st → R)
    (hn : ∀ (i : Nat) a s, l[i]? = some a → (∀ s', step s a = some (.inl s') → body (mk s i) = some (.inl (mk s' ((i + 1 : Nat) : Int)))) ∧ (∀ x, step s a = some (.inr x) → body (mk s i) = some (.inr x)))
    (he : ∀ s, body (mk s (l.length : Nat)) = some (.inr (fin s))) {s : st} {r : R} (h : foldE step fin s l = some r) : lp body (mk s 0) = some r :=
  lp_list mk step fin hn he _ 0 s r rfl (Nat.zero_le _) (by simpa using h)

theorem idx {α : Type} [Inhabited α] {l : List α} {i : Nat} {a : α} (h : l[i]? = some a) (hl : l.length < 4611686018427387904) :
    decide ((i : Int) < ((l.length : Nat) : Int)) = true ∧ (0 ≤ (i : Int) ∧ (i : Int) < ((l.length : Nat) : Int)) ∧ l.getD (Int.toNat (i : Int)) default = a ∧ IntKind.i64.wrap ((i : Int) + 1) = ((i + 1 : Nat) : Int) := by
  have hlt : i < l.length := (List.getElem?_eq_some_iff.1 h).1
  refine ⟨by simpa using hlt, ⟨by omega, by omega⟩, ?_, ?_⟩
  · rw [Int.toNat_natCast, List.getD_eq_getElem?_getD, h]; rfl
  · rw [wrap_in (by omega) (by omega)]; omega

theorem idx_end {n : Nat} : decide (((n : Nat) : Int) < ((n : Nat) : Int)) = false := by simp

theorem at_0 {α : Type} {j : α} {r : List α} : (0 : Int) ≤ 0 ∧ (0 : Int) < ((List.length (j :: r) : Nat) : Int) := ⟨by omega, by simp⟩

theorem getD_0 {α : Type} [Inhabited α] {j : α} {r : List α} : List.getD (j :: r) (Int.toNat (0 : Int)) default = j := rfl

end Go.Abs
namespace Go.Abs
open Go
theorem drop_cons {α : Type} {l r : List α} {a : α} {k : Nat} (h : l.drop k = a :: r) : l[k]? = some a ∧ l.drop (k + 1) = r := by
  have hk : k < l.length := by
    apply Classical.byContradiction; intro hn
    rw [List.drop_eq_nil_of_le (by omega)] at h; cases h
  rw [List.drop_eq_getElem_cons hk] at h
  obtain ⟨h1, h2⟩ := List.cons.inj h
  exact ⟨by rw [List.getElem?_eq_getElem hk, h1], h2⟩

/-- A loop over a list: what it comes to, told by its state and by what is left. -/
theorem lp_suf {α S st R : Type} {body : S → Option (S ⊕ R)} {l : List α} (mk : st → Int → S) (G : st → List α → R) (Inv : st → List α → Prop)
    (hn : ∀ (i : Nat) a r s, l[i]? = some a → Inv s (a :: r) → (∃ s', body (mk s i) = some (.inl (mk s' ((i + 1 : Nat) : Int))) ∧ Inv s' r ∧ G s' r = G s (a :: r)) ∨ body (mk s i) = some (.inr (G s (a :: r))))
    (he : ∀ s, Inv s [] → body (mk s (l.length : Nat)) = some (.inr (G s []))) : ∀ (r : List α) (k : Nat) (s : st), l.drop k = r → k ≤ l.length → Inv s r → lp body (mk s k) = some (G s r)
  | [], k, s, hd, hk, hi => by
    have : k = l.length := by
      have := congrArg List.length hd
      simp only [List.length_drop, List.length_nil] at this; omega
    subst this
    exact lp_last (he s hi)
  | a :: r, k, s, hd, hk, hi => by
    obtain ⟨h1, h2⟩ := drop_cons hd
    have hlt : k < l.length := (List.getElem?_eq_some_iff.1 h1).1
    rcases hn k a r s h1 hi with ⟨s', hb, hi', hg⟩ | hb
    · rw [lp_next hb, lp_suf mk G Inv hn he r (k + 1) s' h2 (by omega) hi', hg]
    · exact lp_last hb

theorem lp_suf0 {α S st R : Type} {body : S → Option (S ⊕ R)} {l : List α} (mk : st → Int → S) (G : st → List α → R) (Inv : st → List α → Prop) (s : st)
    (hn : ∀ (i : Nat) a r s, l[i]? = some a → Inv s (a :: r) → (∃ s', body (mk s i) = some (.inl (mk s' ((i + 1 : Nat) : Int))) ∧ Inv s' r ∧ G s' r = G s (a :: r)) ∨ body (mk s i) = some (.inr (G s (a :: r))))
    (he : ∀ s, Inv s [] → body (mk s (l.length : Nat)) = some (.inr (G s []))) (hi : Inv s l) : lp body (mk s 0) = some (G s l) :=
  lp_suf mk G Inv hn he l 0 s rfl (Nat.zero_le _) hi

/-- A loop that looks for one. -/
theorem lp_any {α S R : Type} {body : S → Option (S ⊕ R)} {l : List α} (mk : Int → S) (bad : α → Bool) (x y : R)
    (hn : ∀ (i : Nat) a, l[i]? = some a → body (mk i) = some (if bad a then .inr x else .inl (mk ((i + 1 : Nat) : Int))))
    (he : body (mk (l.length : Nat)) = some (.inr y)) : lp body (mk 0) = some (if l.any bad then x else y) := by
  refine lp_suf0 (st := Unit) (fun _ i => mk i) (fun _ r => if r.any bad then x else y) (fun _ _ => True) () ?_ ?_ trivial
  · intro i a r s ha _
    have hb := hn i a ha
    cases h : bad a
    · left; refine ⟨(), ?_, trivial, ?_⟩
      · simpa [h] using hb
      · simp [List.any_cons, h]
    · right; simpa [h, List.any_cons] using hb
  · intro _ _; simpa using he

end Go.Abs
namespace Go.Abs
open Go
noncomputable def g_insertionSort_j2 {α : Type} [Inhabited α] (cmp3 : α → α → Option Int) (data0 : List α) (a1 : Int) (b2 : Int) (i8 : Int) : Option ((List α × Int) ⊕ ((List α))) :=
  some (.inl (data0, IntKind.i64.wrap (i8 + (1 : Int))))

noncomputable def g_insertionSort_l3 {α : Type} [Inhabited α] (cmp3 : α → α → Option Int) (a1 : Int) (b2 : Int) (i8 : Int) (data0 : List α) (j9 : Int) : Option ((List α × Int) ⊕ ((List α))) :=
  asrt ((((decide (a1 < j9))) = true → 0 ≤ j9 ∧ j9 < ((List.length data0 : Nat) : Int))) <|
  asrt ((((decide (a1 < j9))) = true → 0 ≤ (IntKind.i64.wrap (j9 - (1 : Int))) ∧ (IntKind.i64.wrap (j9 - (1 : Int))) < ((List.length data0 : Nat) : Int))) <|
  (gcall (decide (a1 < j9)) (cmp3 (List.getD data0 (Int.toNat j9) default) (List.getD data0 (Int.toNat (IntKind.i64.wrap (j9 - (1 : Int)))) default))).bind fun x3 =>
  cond ((decide (a1 < j9)) && (decide (x3 < (0 : Int))))
  (asrt (0 ≤ (IntKind.i64.wrap (j9 - (1 : Int))) ∧ (IntKind.i64.wrap (j9 - (1 : Int))) < ((List.length data0 : Nat) : Int)) <|
  asrt (0 ≤ j9 ∧ j9 < ((List.length data0 : Nat) : Int)) <|
  asrt (0 ≤ j9 ∧ j9 < ((List.length data0 : Nat) : Int)) <|
  asrt (0 ≤ (IntKind.i64.wrap (j9 - (1 : Int))) ∧ (IntKind.i64.wrap (j9 - (1 : Int))) < ((List.length data0 : Nat) : Int)) <|
  some (.inl (List.set (List.set data0 (Int.toNat j9) (List.getD data0 (Int.toNat (IntKind.i64.wrap (j9 - (1 : Int)))) default)) (Int.toNat (IntKind.i64.wrap (j9 - (1 : Int)))) (List.getD data0 (Int.toNat j9) default), IntKind.i64.wrap (j9 - (1 : Int)))))
  (some (.inr data0))

noncomputable def g_insertionSort_h3 {α : Type} [Inhabited α] (cmp3 : α → α → Option Int) (data0 : List α) (a1 : Int) (b2 : Int) (i8 : Int) (j9 : Int) : Option ((List α × Int) ⊕ ((List α))) :=
  (lp (fun s => g_insertionSort_l3 cmp3 a1 b2 i8 s.1 s.2) (data0, j9)).bind (fun rr => g_insertionSort_j2 cmp3 rr a1 b2 i8)

noncomputable def g_insertionSort_l1 {α : Type} [Inhabited α] (cmp3 : α → α → Option Int) (a1 : Int) (b2 : Int) (data0 : List α) (i8 : Int) : Option ((List α × Int) ⊕ ((List α))) :=
  cond (decide (i8 < b2))
  (g_insertionSort_h3 cmp3 data0 a1 b2 i8 i8)
  (some (.inr data0))

noncomputable def g_insertionSort_h1 {α : Type} [Inhabited α] (cmp3 : α → α → Option Int) (data0 : List α) (a1 : Int) (b2 : Int) (i8 : Int) : Option (List α) :=
  (lp (fun s => g_insertionSort_l1 cmp3 a1 b2 s.1 s.2) (data0, i8)).bind (fun rr => some rr)

noncomputable def gs_insertionSort {α : Type} [Inhabited α] (data0 : (List α)) (a1 : Int) (b2 : Int) (cmp3 : α → α → Option Int) : Option (List α) :=
  g_insertionSort_h1 cmp3 data0 a1 b2 (IntKind.i64.wrap (a1 + (1 : Int)))

noncomputable def g_swapRange_l1 {α : Type} [Inhabited α] (cmp4 : α → α → Option Int) (a1 : Int) (b2 : Int) (n3 : Int) (data0 : List α) (i10 : Int) : Option ((List α × Int) ⊕ ((List α))) :=
  cond (decide (i10 < n3))
  (asrt (0 ≤ (IntKind.i64.wrap (b2 + i10)) ∧ (IntKind.i64.wrap (b2 + i10)) < ((List.length data0 : Nat) : Int)) <|
  asrt (0 ≤ (IntKind.i64.wrap (a1 + i10)) ∧ (IntKind.i64.wrap (a1 + i10)) < ((List.length data0 : Nat) : Int)) <|
  asrt (0 ≤ (IntKind.i64.wrap (a1 + i10)) ∧ (IntKind.i64.wrap (a1 + i10)) < ((List.length data0 : Nat) : Int)) <|
  asrt (0 ≤ (IntKind.i64.wrap (b2 + i10)) ∧ (IntKind.i64.wrap (b2 + i10)) < ((List.length data0 : Nat) : Int)) <|
  some (.inl (List.set (List.set data0 (Int.toNat (IntKind.i64.wrap (a1 + i10))) (List.getD data0 (Int.toNat (IntKind.i64.wrap (b2 + i10))) default)) (Int.toNat (IntKind.i64.wrap (b2 + i10))) (List.getD data0 (Int.toNat (IntKind.i64.wrap (a1 + i10))) default), IntKind.i64.wrap (i10 + (1 : Int)))))
  (some (.inr data0))

noncomputable def g_swapRange_h1 {α : Type} [Inhabited α] (cmp4 : α → α → Option Int) (data0 : List α) (a1 : Int) (b2 : Int) (n3 : Int) (i10 : Int) : Option (List α) :=
  (lp (fun s => g_swapRange_l1 cmp4 a1 b2 n3 s.1 s.2) (data0, i10)).bind (fun rr => some rr)

noncomputable def gs_swapRange {α : Type} [Inhabited α] (data0 : (List α)) (a1 : Int) (b2 : Int) (n3 : Int) (cmp4 : α → α → Option Int) : Option (List α) :=
  g_swapRange_h1 cmp4 data0 a1 b2 n3 (0 : Int)

noncomputable def g_rotate_j1 {α : Type} [Inhabited α] (cmp4 : α → α → Option Int) (data0 : List α) (m2 : Int) (i10 : Int) : Option (List α) :=
  (gs_swapRange data0 (IntKind.i64.wrap (m2 - i10)) m2 i10 cmp4).bind fun x1 =>
  some x1

noncomputable def g_rotate_l2 {α : Type} [Inhabited α] (cmp4 : α → α → Option Int) (m2 : Int) (data0 : List α) (i10 : Int) (j11 : Int) : Option ((List α × Int × Int) ⊕ ((List α × Int))) :=
  cond (!decide (i10 = j11))
  (cond (decide (j11 < i10))
  ((gs_swapRange data0 (IntKind.i64.wrap (m2 - i10)) m2 j11 cmp4).bind fun x4 =>
  some (.inl (x4, IntKind.i64.wrap (i10 - j11), j11)))
  ((gs_swapRange data0 (IntKind.i64.wrap (m2 - i10)) (IntKind.i64.wrap ((IntKind.i64.wrap (m2 + j11)) - i10)) i10 cmp4).bind fun x7 =>
  some (.inl (x7, i10, IntKind.i64.wrap (j11 - i10)))))
  (some (.inr (data0, i10)))

noncomputable def g_rotate_h2 {α : Type} [Inhabited α] (cmp4 : α → α → Option Int) (data0 : List α) (m2 : Int) (i10 : Int) (j11 : Int) : Option (List α) :=
  (lp (fun s => g_rotate_l2 cmp4 m2 s.1 s.2.1 s.2.2) (data0, i10, j11)).bind (fun rr => g_rotate_j1 cmp4 rr.1 m2 rr.2)

noncomputable def gs_rotate {α : Type} [Inhabited α] (data0 : (List α)) (a1 : Int) (m2 : Int) (b3 : Int) (cmp4 : α → α → Option Int) : Option (List α) :=
  g_rotate_h2 cmp4 data0 m2 (IntKind.i64.wrap (m2 - a1)) (IntKind.i64.wrap (b3 - m2))

noncomputable def g_symMerge_j6 {α : Type} [Inhabited α] (cmp4 : α → α → Option Int) (rec : (List α) → Int → Int → Int → Option (List α)) (data0 : List α) (b3 : Int) (mid18 : Int) (end24 : Int) : Option (List α) :=
  cond ((decide (mid18 < end24)) && (decide (end24 < b3)))
  ((rec data0 mid18 end24 b3).bind fun x2 =>
  some x2)
  (some data0)

noncomputable def g_symMerge_j5 {α : Type} [Inhabited α] (cmp4 : α → α → Option Int) (rec : (List α) → Int → Int → Int → Option (List α)) (data0 : List α) (a1 : Int) (b3 : Int) (mid18 : Int) (start20 : Int) (end24 : Int) : Option (List α) :=
  cond ((decide (a1 < start20)) && (decide (start20 < mid18)))
  ((rec data0 a1 start20 mid18).bind fun x6 =>
  g_symMerge_j6 cmp4 rec x6 b3 mid18 end24)
  (g_symMerge_j6 cmp4 rec data0 b3 mid18 end24)

noncomputable def g_symMerge_j4 {α : Type} [Inhabited α] (cmp4 : α → α → Option Int) (rec : (List α) → Int → Int → Int → Option (List α)) (data0 : List α) (a1 : Int) (m2 : Int) (b3 : Int) (mid18 : Int) (n19 : Int) (start20 : Int) : Option (List α) :=
  cond ((decide (start20 < m2)) && (decide (m2 < (IntKind.i64.wrap (n19 - start20)))))
  ((gs_rotate data0 start20 m2 (IntKind.i64.wrap (n19 - start20)) cmp4).bind fun x10 =>
  g_symMerge_j5 cmp4 rec x10 a1 b3 mid18 start20 (IntKind.i64.wrap (n19 - start20)))
  (g_symMerge_j5 cmp4 rec data0 a1 b3 mid18 start20 (IntKind.i64.wrap (n19 - start20)))

noncomputable def g_symMerge_l7 {α : Type} [Inhabited α] (cmp4 : α → α → Option Int) (rec : (List α) → Int → Int → Int → Option (List α)) (a1 : Int) (m2 : Int) (b3 : Int) (mid18 : Int) (n19 : Int) (p22 : Int) (data0 : List α) (start20 : Int) (r21 : Int) : Option ((List α × Int × Int) ⊕ ((List α × Int))) :=
  cond (decide (start20 < r21))
  (asrt (0 ≤ (1 : Int)) <|
  asrt (0 ≤ (IntKind.i64.wrap (p22 - (IntKind.i64.wrap (Int.fdiv (IntKind.u64.wrap (IntKind.i64.wrap (start20 + r21))) (2 ^ (min (Int.toNat (1 : Int)) 64)))))) ∧ (IntKind.i64.wrap (p22 - (IntKind.i64.wrap (Int.fdiv (IntKind.u64.wrap (IntKind.i64.wrap (start20 + r21))) (2 ^ (min (Int.toNat (1 : Int)) 64)))))) < ((List.length data0 : Nat) : Int)) <|
  asrt (0 ≤ (IntKind.i64.wrap (Int.fdiv (IntKind.u64.wrap (IntKind.i64.wrap (start20 + r21))) (2 ^ (min (Int.toNat (1 : Int)) 64)))) ∧ (IntKind.i64.wrap (Int.fdiv (IntKind.u64.wrap (IntKind.i64.wrap (start20 + r21))) (2 ^ (min (Int.toNat (1 : Int)) 64)))) < ((List.length data0 : Nat) : Int)) <|
  (cmp4 (List.getD data0 (Int.toNat (IntKind.i64.wrap (p22 - (IntKind.i64.wrap (Int.fdiv (IntKind.u64.wrap (IntKind.i64.wrap (start20 + r21))) (2 ^ (min (Int.toNat (1 : Int)) 64))))))) default) (List.getD data0 (Int.toNat (IntKind.i64.wrap (Int.fdiv (IntKind.u64.wrap (IntKind.i64.wrap (start20 + r21))) (2 ^ (min (Int.toNat (1 : Int)) 64))))) default)).bind fun x17 =>
  cond (!(decide (x17 < (0 : Int))))
  (some (.inl (data0, IntKind.i64.wrap ((IntKind.i64.wrap (Int.fdiv (IntKind.u64.wrap (IntKind.i64.wrap (start20 + r21))) (2 ^ (min (Int.toNat (1 : Int)) 64)))) + (1 : Int)), r21)))
  (some (.inl (data0, start20, IntKind.i64.wrap (Int.fdiv (IntKind.u64.wrap (IntKind.i64.wrap (start20 + r21))) (2 ^ (min (Int.toNat (1 : Int)) 64)))))))
  (some (.inr (data0, start20)))

noncomputable def g_symMerge_h7 {α : Type} [Inhabited α] (cmp4 : α → α → Option Int) (rec : (List α) → Int → Int → Int → Option (List α)) (data0 : List α) (a1 : Int) (m2 : Int) (b3 : Int) (mid18 : Int) (n19 : Int) (start20 : Int) (r21 : Int) (p22 : Int) : Option (List α) :=
  (lp (fun s => g_symMerge_l7 cmp4 rec a1 m2 b3 mid18 n19 p22 s.1 s.2.1 s.2.2) (data0, start20, r21)).bind (fun rr => g_symMerge_j4 cmp4 rec rr.1 a1 m2 b3 mid18 n19 rr.2)

noncomputable def g_symMerge_j3 {α : Type} [Inhabited α] (cmp4 : α → α → Option Int) (rec : (List α) → Int → Int → Int → Option (List α)) (data0 : List α) (a1 : Int) (m2 : Int) (b3 : Int) (mid18 : Int) (n19 : Int) (start20 : Int) (r21 : Int) : Option (List α) :=
  g_symMerge_h7 cmp4 rec data0 a1 m2 b3 mid18 n19 start20 r21 (IntKind.i64.wrap (n19 - (1 : Int)))

noncomputable def g_symMerge_j2 {α : Type} [Inhabited α] (cmp4 : α → α → Option Int) (rec : (List α) → Int → Int → Int → Option (List α)) (data0 : List α) (a1 : Int) (m2 : Int) (b3 : Int) : Option (List α) :=
  asrt (0 ≤ (1 : Int)) <|
  cond (decide ((IntKind.i64.wrap (Int.fdiv (IntKind.u64.wrap (IntKind.i64.wrap (a1 + b3))) (2 ^ (min (Int.toNat (1 : Int)) 64)))) < m2))
  (g_symMerge_j3 cmp4 rec data0 a1 m2 b3 (IntKind.i64.wrap (Int.fdiv (IntKind.u64.wrap (IntKind.i64.wrap (a1 + b3))) (2 ^ (min (Int.toNat (1 : Int)) 64)))) (IntKind.i64.wrap ((IntKind.i64.wrap (Int.fdiv (IntKind.u64.wrap (IntKind.i64.wrap (a1 + b3))) (2 ^ (min (Int.toNat (1 : Int)) 64)))) + m2)) (IntKind.i64.wrap ((IntKind.i64.wrap ((IntKind.i64.wrap (Int.fdiv (IntKind.u64.wrap (IntKind.i64.wrap (a1 + b3))) (2 ^ (min (Int.toNat (1 : Int)) 64)))) + m2)) - b3)) (IntKind.i64.wrap (Int.fdiv (IntKind.u64.wrap (IntKind.i64.wrap (a1 + b3))) (2 ^ (min (Int.toNat (1 : Int)) 64)))))
  (g_symMerge_j3 cmp4 rec data0 a1 m2 b3 (IntKind.i64.wrap (Int.fdiv (IntKind.u64.wrap (IntKind.i64.wrap (a1 + b3))) (2 ^ (min (Int.toNat (1 : Int)) 64)))) (IntKind.i64.wrap ((IntKind.i64.wrap (Int.fdiv (IntKind.u64.wrap (IntKind.i64.wrap (a1 + b3))) (2 ^ (min (Int.toNat (1 : Int)) 64)))) + m2)) a1 m2)

noncomputable def g_symMerge_j9 {α : Type} [Inhabited α] (cmp4 : α → α → Option Int) (rec : (List α) → Int → Int → Int → Option (List α)) (data0 : List α) : Option (List α) :=
  some data0

noncomputable def g_symMerge_l10 {α : Type} [Inhabited α] (cmp4 : α → α → Option Int) (rec : (List α) → Int → Int → Int → Option (List α)) (i14 : Int) (data0 : List α) (k17 : Int) : Option ((List α × Int) ⊕ ((List α))) :=
  cond (decide (i14 < k17))
  (asrt (0 ≤ (IntKind.i64.wrap (k17 - (1 : Int))) ∧ (IntKind.i64.wrap (k17 - (1 : Int))) < ((List.length data0 : Nat) : Int)) <|
  asrt (0 ≤ k17 ∧ k17 < ((List.length data0 : Nat) : Int)) <|
  asrt (0 ≤ k17 ∧ k17 < ((List.length data0 : Nat) : Int)) <|
  asrt (0 ≤ (IntKind.i64.wrap (k17 - (1 : Int))) ∧ (IntKind.i64.wrap (k17 - (1 : Int))) < ((List.length data0 : Nat) : Int)) <|
  some (.inl (List.set (List.set data0 (Int.toNat k17) (List.getD data0 (Int.toNat (IntKind.i64.wrap (k17 - (1 : Int)))) default)) (Int.toNat (IntKind.i64.wrap (k17 - (1 : Int)))) (List.getD data0 (Int.toNat k17) default), IntKind.i64.wrap (k17 - (1 : Int)))))
  (some (.inr data0))

noncomputable def g_symMerge_h10 {α : Type} [Inhabited α] (cmp4 : α → α → Option Int) (rec : (List α) → Int → Int → Int → Option (List α)) (data0 : List α) (i14 : Int) (k17 : Int) : Option (List α) :=
  (lp (fun s => g_symMerge_l10 cmp4 rec i14 s.1 s.2) (data0, k17)).bind (fun rr => g_symMerge_j9 cmp4 rec rr)

noncomputable def g_symMerge_j8 {α : Type} [Inhabited α] (cmp4 : α → α → Option Int) (rec : (List α) → Int → Int → Int → Option (List α)) (data0 : List α) (m2 : Int) (i14 : Int) : Option (List α) :=
  g_symMerge_h10 cmp4 rec data0 i14 m2

noncomputable def g_symMerge_l11 {α : Type} [Inhabited α] (cmp4 : α → α → Option Int) (rec : (List α) → Int → Int → Int → Option (List α)) (m2 : Int) (data0 : List α) (i14 : Int) (j15 : Int) : Option ((List α × Int × Int) ⊕ ((List α × Int))) :=
  cond (decide (i14 < j15))
  (asrt (0 ≤ (1 : Int)) <|
  asrt (0 ≤ m2 ∧ m2 < ((List.length data0 : Nat) : Int)) <|
  asrt (0 ≤ (IntKind.i64.wrap (Int.fdiv (IntKind.u64.wrap (IntKind.i64.wrap (i14 + j15))) (2 ^ (min (Int.toNat (1 : Int)) 64)))) ∧ (IntKind.i64.wrap (Int.fdiv (IntKind.u64.wrap (IntKind.i64.wrap (i14 + j15))) (2 ^ (min (Int.toNat (1 : Int)) 64)))) < ((List.length data0 : Nat) : Int)) <|
  (cmp4 (List.getD data0 (Int.toNat m2) default) (List.getD data0 (Int.toNat (IntKind.i64.wrap (Int.fdiv (IntKind.u64.wrap (IntKind.i64.wrap (i14 + j15))) (2 ^ (min (Int.toNat (1 : Int)) 64))))) default)).bind fun x31 =>
  cond (!(decide (x31 < (0 : Int))))
  (some (.inl (data0, IntKind.i64.wrap ((IntKind.i64.wrap (Int.fdiv (IntKind.u64.wrap (IntKind.i64.wrap (i14 + j15))) (2 ^ (min (Int.toNat (1 : Int)) 64)))) + (1 : Int)), j15)))
  (some (.inl (data0, i14, IntKind.i64.wrap (Int.fdiv (IntKind.u64.wrap (IntKind.i64.wrap (i14 + j15))) (2 ^ (min (Int.toNat (1 : Int)) 64)))))))
  (some (.inr (data0, i14)))

noncomputable def g_symMerge_h11 {α : Type} [Inhabited α] (cmp4 : α → α → Option Int) (rec : (List α) → Int → Int → Int → Option (List α)) (data0 : List α) (m2 : Int) (i14 : Int) (j15 : Int) : Option (List α) :=
  (lp (fun s => g_symMerge_l11 cmp4 rec m2 s.1 s.2.1 s.2.2) (data0, i14, j15)).bind (fun rr => g_symMerge_j8 cmp4 rec rr.1 m2 rr.2)

noncomputable def g_symMerge_j1 {α : Type} [Inhabited α] (cmp4 : α → α → Option Int) (rec : (List α) → Int → Int → Int → Option (List α)) (data0 : List α) (a1 : Int) (m2 : Int) (b3 : Int) : Option (List α) :=
  cond (decide ((IntKind.i64.wrap (b3 - m2)) = (1 : Int)))
  (g_symMerge_h11 cmp4 rec data0 m2 a1 m2)
  (g_symMerge_j2 cmp4 rec data0 a1 m2 b3)

noncomputable def g_symMerge_j13 {α : Type} [Inhabited α] (cmp4 : α → α → Option Int) (rec : (List α) → Int → Int → Int → Option (List α)) (data0 : List α) : Option (List α) :=
  some data0

noncomputable def g_symMerge_l14 {α : Type} [Inhabited α] (cmp4 : α → α → Option Int) (rec : (List α) → Int → Int → Int → Option (List α)) (i10 : Int) (data0 : List α) (k13 : Int) : Option ((List α × Int) ⊕ ((List α))) :=
  cond (decide (k13 < (IntKind.i64.wrap (i10 - (1 : Int)))))
  (asrt (0 ≤ (IntKind.i64.wrap (k13 + (1 : Int))) ∧ (IntKind.i64.wrap (k13 + (1 : Int))) < ((List.length data0 : Nat) : Int)) <|
  asrt (0 ≤ k13 ∧ k13 < ((List.length data0 : Nat) : Int)) <|
  asrt (0 ≤ k13 ∧ k13 < ((List.length data0 : Nat) : Int)) <|
  asrt (0 ≤ (IntKind.i64.wrap (k13 + (1 : Int))) ∧ (IntKind.i64.wrap (k13 + (1 : Int))) < ((List.length data0 : Nat) : Int)) <|
  some (.inl (List.set (List.set data0 (Int.toNat k13) (List.getD data0 (Int.toNat (IntKind.i64.wrap (k13 + (1 : Int)))) default)) (Int.toNat (IntKind.i64.wrap (k13 + (1 : Int)))) (List.getD data0 (Int.toNat k13) default), IntKind.i64.wrap (k13 + (1 : Int)))))
  (some (.inr data0))

noncomputable def g_symMerge_h14 {α : Type} [Inhabited α] (cmp4 : α → α → Option Int) (rec : (List α) → Int → Int → Int → Option (List α)) (data0 : List α) (i10 : Int) (k13 : Int) : Option (List α) :=
  (lp (fun s => g_symMerge_l14 cmp4 rec i10 s.1 s.2) (data0, k13)).bind (fun rr => g_symMerge_j13 cmp4 rec rr)

noncomputable def g_symMerge_j12 {α : Type} [Inhabited α] (cmp4 : α → α → Option Int) (rec : (List α) → Int → Int → Int → Option (List α)) (data0 : List α) (a1 : Int) (i10 : Int) : Option (List α) :=
  g_symMerge_h14 cmp4 rec data0 i10 a1

noncomputable def g_symMerge_l15 {α : Type} [Inhabited α] (cmp4 : α → α → Option Int) (rec : (List α) → Int → Int → Int → Option (List α)) (a1 : Int) (data0 : List α) (i10 : Int) (j11 : Int) : Option ((List α × Int × Int) ⊕ ((List α × Int))) :=
  cond (decide (i10 < j11))
  (asrt (0 ≤ (1 : Int)) <|
  asrt (0 ≤ (IntKind.i64.wrap (Int.fdiv (IntKind.u64.wrap (IntKind.i64.wrap (i10 + j11))) (2 ^ (min (Int.toNat (1 : Int)) 64)))) ∧ (IntKind.i64.wrap (Int.fdiv (IntKind.u64.wrap (IntKind.i64.wrap (i10 + j11))) (2 ^ (min (Int.toNat (1 : Int)) 64)))) < ((List.length data0 : Nat) : Int)) <|
  asrt (0 ≤ a1 ∧ a1 < ((List.length data0 : Nat) : Int)) <|
  (cmp4 (List.getD data0 (Int.toNat (IntKind.i64.wrap (Int.fdiv (IntKind.u64.wrap (IntKind.i64.wrap (i10 + j11))) (2 ^ (min (Int.toNat (1 : Int)) 64))))) default) (List.getD data0 (Int.toNat a1) default)).bind fun x45 =>
  cond (decide (x45 < (0 : Int)))
  (some (.inl (data0, IntKind.i64.wrap ((IntKind.i64.wrap (Int.fdiv (IntKind.u64.wrap (IntKind.i64.wrap (i10 + j11))) (2 ^ (min (Int.toNat (1 : Int)) 64)))) + (1 : Int)), j11)))
  (some (.inl (data0, i10, IntKind.i64.wrap (Int.fdiv (IntKind.u64.wrap (IntKind.i64.wrap (i10 + j11))) (2 ^ (min (Int.toNat (1 : Int)) 64)))))))
  (some (.inr (data0, i10)))

noncomputable def g_symMerge_h15 {α : Type} [Inhabited α] (cmp4 : α → α → Option Int) (rec : (List α) → Int → Int → Int → Option (List α)) (data0 : List α) (a1 : Int) (i10 : Int) (j11 : Int) : Option (List α) :=
  (lp (fun s => g_symMerge_l15 cmp4 rec a1 s.1 s.2.1 s.2.2) (data0, i10, j11)).bind (fun rr => g_symMerge_j12 cmp4 rec rr.1 a1 rr.2)

noncomputable def g_symMerge_step {α : Type} [Inhabited α] (cmp4 : α → α → Option Int) (rec : (List α) → Int → Int → Int → Option (List α)) (data0 : (List α)) (a1 : Int) (m2 : Int) (b3 : Int) : Option (List α) :=
  cond (decide ((IntKind.i64.wrap (m2 - a1)) = (1 : Int)))
  (g_symMerge_h15 cmp4 rec data0 a1 m2 b3)
  (g_symMerge_j1 cmp4 rec data0 a1 m2 b3)

noncomputable def g_symMerge_at {α : Type} [Inhabited α] (cmp4 : α → α → Option Int) : Nat → (List α) → Int → Int → Int → Option (List α)
  | 0 => fun _ _ _ _ => none
  | k + 1 => g_symMerge_step cmp4 (g_symMerge_at cmp4 k)

noncomputable def gs_symMerge {α : Type} [Inhabited α] (data0 : (List α)) (a1 : Int) (m2 : Int) (b3 : Int) (cmp4 : α → α → Option Int) : Option (List α) := fixN (fun k => g_symMerge_at cmp4 k data0 a1 m2 b3)

noncomputable def g_stable_j4 {α : Type} [Inhabited α] (cmp2 : α → α → Option Int) (data0 : List α) (n1 : Int) (blockSize6 : Int) : Option ((List α × Int) ⊕ ((List α))) :=
  some (.inl (data0, IntKind.i64.wrap (blockSize6 * (2 : Int))))

noncomputable def g_stable_j3 {α : Type} [Inhabited α] (cmp2 : α → α → Option Int) (data0 : List α) (n1 : Int) (blockSize6 : Int) (a7 : Int) : Option ((List α × Int) ⊕ ((List α))) :=
  cond (decide ((IntKind.i64.wrap (a7 + blockSize6)) < n1))
  ((gs_symMerge data0 a7 (IntKind.i64.wrap (a7 + blockSize6)) n1 cmp2).bind fun x4 =>
  g_stable_j4 cmp2 x4 n1 blockSize6)
  (g_stable_j4 cmp2 data0 n1 blockSize6)

noncomputable def g_stable_l5 {α : Type} [Inhabited α] (cmp2 : α → α → Option Int) (n1 : Int) (blockSize6 : Int) (data0 : List α) (a7 : Int) (b8 : Int) : Option ((List α × Int × Int) ⊕ ((List α × Int))) :=
  cond (decide (b8 ≤ n1))
  ((gs_symMerge data0 a7 (IntKind.i64.wrap (a7 + blockSize6)) b8 cmp2).bind fun x8 =>
  some (.inl (x8, b8, IntKind.i64.wrap (b8 + (IntKind.i64.wrap ((2 : Int) * blockSize6))))))
  (some (.inr (data0, a7)))

noncomputable def g_stable_h5 {α : Type} [Inhabited α] (cmp2 : α → α → Option Int) (data0 : List α) (n1 : Int) (blockSize6 : Int) (a7 : Int) (b8 : Int) : Option ((List α × Int) ⊕ ((List α))) :=
  (lp (fun s => g_stable_l5 cmp2 n1 blockSize6 s.1 s.2.1 s.2.2) (data0, a7, b8)).bind (fun rr => g_stable_j3 cmp2 rr.1 n1 blockSize6 rr.2)

noncomputable def g_stable_l2 {α : Type} [Inhabited α] (cmp2 : α → α → Option Int) (n1 : Int) (data0 : List α) (blockSize6 : Int) : Option ((List α × Int) ⊕ ((List α))) :=
  cond (decide (blockSize6 < n1))
  (g_stable_h5 cmp2 data0 n1 blockSize6 (0 : Int) (IntKind.i64.wrap ((2 : Int) * blockSize6)))
  (some (.inr data0))

noncomputable def g_stable_h2 {α : Type} [Inhabited α] (cmp2 : α → α → Option Int) (data0 : List α) (n1 : Int) (blockSize6 : Int) : Option (List α) :=
  (lp (fun s => g_stable_l2 cmp2 n1 s.1 s.2) (data0, blockSize6)).bind (fun rr => some rr)

noncomputable def g_stable_j1 {α : Type} [Inhabited α] (cmp2 : α → α → Option Int) (data0 : List α) (n1 : Int) (blockSize6 : Int) (a7 : Int) : Option (List α) :=
  (gs_insertionSort data0 a7 n1 cmp2).bind fun x1 =>
  g_stable_h2 cmp2 x1 n1 blockSize6

noncomputable def g_stable_l6 {α : Type} [Inhabited α] (cmp2 : α → α → Option Int) (n1 : Int) (blockSize6 : Int) (data0 : List α) (a7 : Int) (b8 : Int) : Option ((List α × Int × Int) ⊕ ((List α × Int))) :=
  cond (decide (b8 ≤ n1))
  ((gs_insertionSort data0 a7 b8 cmp2).bind fun x13 =>
  some (.inl (x13, b8, IntKind.i64.wrap (b8 + blockSize6))))
  (some (.inr (data0, a7)))

noncomputable def g_stable_h6 {α : Type} [Inhabited α] (cmp2 : α → α → Option Int) (data0 : List α) (n1 : Int) (blockSize6 : Int) (a7 : Int) (b8 : Int) : Option (List α) :=
  (lp (fun s => g_stable_l6 cmp2 n1 blockSize6 s.1 s.2.1 s.2.2) (data0, a7, b8)).bind (fun rr => g_stable_j1 cmp2 rr.1 n1 blockSize6 rr.2)

noncomputable def gs_stable {α : Type} [Inhabited α] (data0 : (List α)) (n1 : Int) (cmp2 : α → α → Option Int) : Option (List α) :=
  g_stable_h6 cmp2 data0 n1 (20 : Int) (0 : Int) (20 : Int)

end Go.Abs
namespace Go.Abs
open Go
variable {α : Type} [Inhabited α]
/-- How elements are compared: what of them may be compared, and which may stand ahead of which. -/
structure Cmp {β : Type} (ok : β → Prop) (le : β → β → Prop) (cmp : β → β → Option Int) : Prop where
  ans : ∀ x y, ok x → ok y → ∃ v, cmp x y = some v ∧ (v < 0 ↔ ¬ le y x)
  trans : ∀ x y z, ok x → ok y → ok z → le x y → le y z → le x z
  total : ∀ x y, ok x → ok y → le x y ∨ le y x

abbrev Srt {β : Type} (le : β → β → Prop) (l : List β) : Prop := l.Pairwise le

abbrev Oks {β : Type} (ok : β → Prop) (l : List β) : Prop := ∀ x ∈ l, ok x

theorem getD_mid {Q R : List α} {x : α} : (Q ++ x :: R).getD Q.length default = x := by simp [List.getD_eq_getElem?_getD]

theorem set_mid {β : Type} {Q R : List β} {x y : β} : (Q ++ x :: R).set Q.length y = Q ++ y :: R := by simp

theorem getD_at {Q R d : List α} {x : α} {n : Nat} (hd : d = Q ++ x :: R) (hn : n = Q.length) : d.getD n default = x := by subst hd; subst hn; exact getD_mid

theorem set_at {β : Type} {Q R d : List β} {x y : β} {n : Nat} (hd : d = Q ++ x :: R) (hn : n = Q.length) : d.set n y = Q ++ y :: R := by subst hd; subst hn; exact set_mid

theorem wr {n : Int} (h1 : -1099511627776 ≤ n) (h2 : n ≤ 8796093022208) : IntKind.i64.wrap n = n := wrap_in (by omega) (by omega)

theorem swap_two {β : Type} {Q M R d : List β} {x y : β} {a b : Nat} (hd : d = Q ++ x :: (M ++ y :: R)) (ha : a = Q.length) (hb : b = Q.length + 1 + M.length) : (d.set a y).set b x = Q ++ y :: (M ++ x :: R) := by
  rw [set_at hd ha, set_at (Q := Q ++ y :: M) (x := y) (R := R) (by simp) (by simp; omega)]
  simp

section ins
variable {ok : α → Prop} {le : α → α → Prop} {cmp : α → α → Option Int}
theorem ins_body_stop {A T : List α} {x : α} {a b i : Int} {P : List α} (ha : a = (P.length : Nat)) (hl : (P ++ A ++ x :: T).length ≤ 1099511627776)
    (hs : A = [] ∨ ∃ A' y v, A = A' ++ [y] ∧ cmp x y = some v ∧ ¬ v < 0) : g_insertionSort_l3 cmp a b i (P ++ A ++ x :: T) ((P.length + A.length : Nat) : Int) = some (.inr (P ++ A ++ x :: T)) := by
  simp only [List.length_append, List.length_cons] at hl
  unfold g_insertionSort_l3
  rcases hs with rfl | ⟨A', y, v, rfl, hc, hv⟩
  · have h : decide (a < ((P.length + ([] : List α).length : Nat) : Int)) = false := by subst ha; simp
    rw [h, asrt_pos (fun h => by cases h), asrt_pos (fun h => by cases h)]
    simp [gcall]
  · simp only [List.length_append, List.length_cons, List.length_nil] at hl ⊢
    have h : decide (a < ((P.length + (A'.length + (0 + 1)) : Nat) : Int)) = true := by subst ha; simp; omega
    have hw : IntKind.i64.wrap (((P.length + (A'.length + (0 + 1)) : Nat) : Int) - 1) = ((P.length + A'.length : Nat) : Int) := by rw [wr (by omega) (by omega)]; omega
    have g1 : (P ++ (A' ++ [y]) ++ x :: T).getD (P.length + (A'.length + (0 + 1))) default = x := getD_at (Q := P ++ (A' ++ [y])) rfl (by simp)
    have g2 : (P ++ (A' ++ [y]) ++ x :: T).getD (P.length + A'.length) default = y := getD_at (Q := P ++ A') (R := x :: T) (by simp) (by simp)
    rw [h, hw, asrt_pos (fun _ => ⟨by omega, by omega⟩), asrt_pos (fun _ => ⟨by omega, by omega⟩)]
    rw [Int.toNat_natCast, Int.toNat_natCast, g1, g2]
    simp [gcall, hc, hv]

theorem ins_body_go {A T : List α} {x y : α} {v : Int} {a b i : Int} {P : List α} (ha : a = (P.length : Nat)) (hl : (P ++ (A ++ [y]) ++ x :: T).length ≤ 1099511627776)
    (hc : cmp x y = some v) (hv : v < 0) : g_insertionSort_l3 cmp a b i (P ++ (A ++ [y]) ++ x :: T) ((P.length + (A ++ [y]).length : Nat) : Int) = some (.inl (P ++ A ++ x :: (y :: T), ((P.length + A.length : Nat) : Int))) := by
  simp only [List.length_append, List.length_cons, List.length_nil] at hl ⊢
  unfold g_insertionSort_l3
  have h : decide (a < ((P.length + (A.length + (0 + 1)) : Nat) : Int)) = true := by subst ha; simp; omega
  have hw : IntKind.i64.wrap (((P.length + (A.length + (0 + 1)) : Nat) : Int) - 1) = ((P.length + A.length : Nat) : Int) := by rw [wr (by omega) (by omega)]; omega
  have g1 : (P ++ (A ++ [y]) ++ x :: T).getD (P.length + (A.length + (0 + 1))) default = x := getD_at (Q := P ++ (A ++ [y])) rfl (by simp)
  have g2 : (P ++ (A ++ [y]) ++ x :: T).getD (P.length + A.length) default = y := getD_at (Q := P ++ A) (R := x :: T) (by simp) (by simp)
  have hs : ((P ++ (A ++ [y]) ++ x :: T).set (P.length + (A.length + (0 + 1))) y).set (P.length + A.length) x = P ++ A ++ x :: (y :: T) := by
    rw [set_at (Q := P ++ (A ++ [y])) (x := x) (R := T) rfl (by simp), set_at (Q := P ++ A) (x := y) (R := y :: T) (by simp) (by simp)]
  have b1 : 0 ≤ ((P.length + (A.length + (0 + 1)) : Nat) : Int) ∧ ((P.length + (A.length + (0 + 1)) : Nat) : Int) < ((List.length (P ++ (A ++ [y]) ++ x :: T) : Nat) : Int) := ⟨by omega, by simp only [List.length_append, List.length_cons, List.length_nil]; omega⟩
  have b2 : 0 ≤ ((P.length + A.length : Nat) : Int) ∧ ((P.length + A.length : Nat) : Int) < ((List.length (P ++ (A ++ [y]) ++ x :: T) : Nat) : Int) := ⟨by omega, by simp only [List.length_append, List.length_cons, List.length_nil]; omega⟩
  rw [h, hw, asrt_pos (fun _ => b1), asrt_pos (fun _ => b2), Int.toNat_natCast, Int.toNat_natCast, g1, g2]
  simp only [gcall, cond_true, hc, Option.bind_some, Bool.true_and, decide_eq_true hv]
  rw [asrt_pos b2, asrt_pos b1, asrt_pos b1, asrt_pos b2, hs]

/-- One element goes to its place. -/
theorem ins_inner (C : Cmp ok le cmp) {x : α} (hx : ok x) {a b i : Int} {P : List α} (ha : a = (P.length : Nat)) : ∀ (n : Nat) (A B T : List α), A.length = n → Oks ok A → Oks ok B → Srt le (A ++ B) → (∀ y ∈ B, ¬ le y x) → (P ++ A ++ x :: (B ++ T)).length ≤ 1099511627776 →
    ∃ D, D.Perm (A ++ x :: B) ∧ Srt le D ∧ lp (fun s : List α × Int => g_insertionSort_l3 cmp a b i s.1 s.2) (P ++ A ++ x :: (B ++ T), ((P.length + A.length : Nat) : Int)) = some (P ++ D ++ T) := by
  intro n
  induction n with
  | zero =>
    intro A B T hn _ hB hs hlt hl
    have hA : A = [] := List.length_eq_zero_iff.1 hn
    subst hA
    refine ⟨x :: B, List.Perm.refl _, ?_, ?_⟩
    · refine List.pairwise_cons.2 ⟨fun y hy => ?_, by simpa using hs⟩
      rcases C.total x y hx (hB y hy) with h | h
      · exact h
      · exact absurd h (hlt y hy)
    · rw [lp_last (ins_body_stop ha hl (Or.inl rfl))]; simp
  | succ n ih =>
    intro A B T hn hA hB hs hlt hl
    obtain ⟨A', y, rfl⟩ : ∃ A' y, A = A' ++ [y] := by
      rcases List.eq_nil_or_concat A with h | ⟨A', y, h⟩
      · rw [h] at hn; simp at hn
      · exact ⟨A', y, by simpa using h⟩
    have hy : ok y := hA y (by simp)
    obtain ⟨v, hc, hv⟩ := C.ans x y hx hy
    by_cases hneg : v < 0
    · have hb := ins_body_go (i := i) (b := b) ha hl hc hneg
      have hl' : (P ++ A' ++ x :: ((y :: B) ++ T)).length ≤ 1099511627776 := by
        simp only [List.length_append, List.length_cons, List.length_nil] at hl ⊢; omega
      obtain ⟨D, d1, d2, d3⟩ := ih A' (y :: B) T (by simpa using hn) (fun z hz => hA z (by simp [hz])) (fun z hz => by rcases List.mem_cons.1 hz with rfl | hz; exact hy; exact hB z hz) (by simpa using hs)
        (fun z hz => by rcases List.mem_cons.1 hz with rfl | hz; exact hv.1 hneg; exact hlt z hz) hl'
      refine ⟨D, d1.trans ?_, d2, ?_⟩
      · simp only [List.append_assoc, List.singleton_append]
        exact List.Perm.append_left _ (List.Perm.swap ..)
      · rw [lp_next hb]; simpa using d3
    · refine ⟨A' ++ [y] ++ x :: B, List.Perm.refl _, ?_, ?_⟩
      · have hyx : le y x := Classical.byContradiction fun h => hneg (hv.2 h)
        simp only [Srt, List.pairwise_append] at hs ⊢
        obtain ⟨s1, s2, s3⟩ := hs
        refine ⟨s1, List.pairwise_cons.2 ⟨fun z hz => ?_, s2⟩, ?_⟩
        · rcases C.total x z hx (hB z hz) with h | h
          · exact h
          · exact absurd h (hlt z hz)
        · intro z hz w hw
          rcases List.mem_cons.1 hw with rfl | hw
          · rcases List.mem_append.1 hz with hz' | hz'
            · exact C.trans z y w (hA z hz) hy hx (s1.2.2 z hz' y (by simp)) hyx
            · rw [List.mem_singleton] at hz'; subst hz'; exact hyx
          · exact s3 z hz w hw
      · rw [lp_last (ins_body_stop ha hl (Or.inr ⟨A', y, v, rfl, hc, hneg⟩))]
        simp

end ins
end Go.Abs
