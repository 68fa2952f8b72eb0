/- What the law EdgeNorms stands on: the framework, the given functions as plain functions, their walks, and the plain laws; part 4. -/
import Derived.Test.YtbnnpfncgndidaaEdgeNormsZ3
set_option linter.unusedSimpArgs false
set_option linter.unusedVariables false
namespace Go.Abs
open Go Go.RowKit Go.Proofs
theorem w_slices_insertionSortCmpFunc_api_Jump (lo0p : Nat) (data0 : (List api_Jump)) (a1 : Int) (b2 : Int) (cmp3_f : Nat) (cmp3_a cmp3_c : List V) (cmp3 : api_Jump → api_Jump → Option Int) (cmp3_h : ∀ a0 a1 r, cmp3 a0 a1 = some r → Fine Try.prog cmp3_f (cmp3_a ++ [(e_api_Jump a0), (e_api_Jump a1)] ++ cmp3_c) (eInt .i64 r)) (r : List api_Jump) (h0 : s_slices_insertionSortCmpFunc_api_Jump data0 a1 b2 cmp3 = some r) : FineI Try.prog 121 lo0p 2 (List.map e_api_Jump data0) (List.map e_api_Jump r) [(.msl 2 lo0p 0 (List.length data0)), (eInt .i64 a1), (eInt .i64 b2), (.fn (.func cmp3_f) cmp3_a cmp3_c)] (.tup []) := by
  intro H0 hl0
  refine F_wk Try.func121 ?_
  have hO := Owns.start1 hl0
  clear hl0
  obtain ⟨N0, hN0⟩ : ∃ n, n = List.length data0 := ⟨_, rfl⟩
  have hN : List.length data0 = N0 := hN0.symm
  unfold s_slices_insertionSortCmpFunc_api_Jump at h0
  refine S_al ttOk 3 [] [(8, (eInt .i64 (IntKind.i64.wrap (a1 + (1 : Int)))))] ?_
  refine C_bk 0 ?_
  refine C_hk [(0, (.msl 2 lo0p 0 (List.length data0))), (1, (eInt .i64 a1)), (2, (eInt .i64 b2)), (3, (.fn (.func cmp3_f) cmp3_a cmp3_c)), (8, (eInt .i64 (IntKind.i64.wrap (a1 + (1 : Int)))))] ?_
  refine C_cut (fun T H => ∃ data0 : List api_Jump, ∃ i8 : Int, Has T [(0, (.msl 2 lo0p 0 (List.length data0))), (1, (eInt .i64 a1)), (2, (eInt .i64 b2)), (3, (.fn (.func cmp3_f) cmp3_a cmp3_c)), (8, (eInt .i64 i8))] ∧ Owns ⟨H0, [lo0p], []⟩ H [(lo0p, 2, List.map e_api_Jump data0)] ∧ List.length data0 = N0 ∧ slices_insertionSortCmpFunc_api_Jump_h1 cmp3 data0 a1 b2 i8 = some r) ?_ ⟨data0, IntKind.i64.wrap (a1 + (1 : Int)), .eq (by kernel_rfl), hO, hN, h0⟩
  clear hO hN h0
  rintro T H ⟨data0, i8, hT, hO, hN, h0⟩
  refine C_has hT ?_
  clear hT
  unfold slices_insertionSortCmpFunc_api_Jump_h1 at h0
  obtain ⟨rr0, hl0, h0⟩ := bindE h0
  refine C_loopS (by kernel_rfl) (fun (s : List api_Jump × Int) T H => Has T [(0, (.msl 2 lo0p 0 (List.length s.1))), (1, (eInt .i64 a1)), (2, (eInt .i64 b2)), (3, (.fn (.func cmp3_f) cmp3_a cmp3_c)), (8, (eInt .i64 s.2))] ∧ Owns ⟨H0, [lo0p], []⟩ H [(lo0p, 2, List.map e_api_Jump s.1)] ∧ List.length s.1 = N0) hl0 ⟨.eq (by kernel_rfl), hO, hN⟩ ?_
  clear hO hN
  rintro k0 s out1 T H ⟨hT, hO, hN⟩ h1 ho0
  obtain ⟨data0, i8⟩ := s
  replace h1 : slices_insertionSortCmpFunc_api_Jump_l1 cmp3 a1 b2 data0 i8 = some out1 := h1
  dsimp only at hT
  refine C_has hT ?_
  clear hT
  unfold slices_insertionSortCmpFunc_api_Jump_l1 at h1
  refine C_sq ?_
  refine S_al ttOk 3 [] [(14, (eBool (decide (i8 < b2))))] ?_
  refine C_cd h1 (fun h1 => ?_) (fun h1 => ?_)
  · refine C_sk ?_
    refine E_tn [(0, (.msl 2 lo0p 0 (List.length data0))), (1, (eInt .i64 a1)), (2, (eInt .i64 b2)), (3, (.fn (.func cmp3_f) cmp3_a cmp3_c)), (8, (eInt .i64 i8))] ?_
    refine C_sj (fun T H => ∃ data0 : List api_Jump, Has T [(0, (.msl 2 lo0p 0 (List.length data0))), (1, (eInt .i64 a1)), (2, (eInt .i64 b2)), (3, (.fn (.func cmp3_f) cmp3_a cmp3_c)), (8, (eInt .i64 i8))] ∧ Owns ⟨H0, [lo0p], []⟩ H [(lo0p, 2, List.map e_api_Jump data0)] ∧ List.length data0 = N0 ∧ slices_insertionSortCmpFunc_api_Jump_j2 cmp3 data0 a1 b2 i8 = some out1) ?_ ?_
    · clear hO hN h1
      rintro T H ⟨data0, hT, hO, hN, h1⟩
      refine C_has hT ?_
      clear hT
      unfold slices_insertionSortCmpFunc_api_Jump_j2 at h1
      refine C_rg ttOk 3 ?_
      refine R_al ?_
      exact E_done (thenA_normal (⟨rfl, (data0, IntKind.i64.wrap (i8 + (1 : Int))), (Option.some.inj h1).symm, .eq (by kernel_rfl), hO, hN⟩))
    refine C_bk 1 ?_
    refine S_al ttOk 2 [] [(9, (eInt .i64 i8))] ?_
    refine C_bk 2 ?_
    refine C_hk [(0, (.msl 2 lo0p 0 (List.length data0))), (1, (eInt .i64 a1)), (2, (eInt .i64 b2)), (3, (.fn (.func cmp3_f) cmp3_a cmp3_c)), (8, (eInt .i64 i8)), (9, (eInt .i64 i8))] ?_
    refine C_cut (fun T H => ∃ data0 : List api_Jump, ∃ j9 : Int, Has T [(0, (.msl 2 lo0p 0 (List.length data0))), (1, (eInt .i64 a1)), (2, (eInt .i64 b2)), (3, (.fn (.func cmp3_f) cmp3_a cmp3_c)), (8, (eInt .i64 i8)), (9, (eInt .i64 j9))] ∧ Owns ⟨H0, [lo0p], []⟩ H [(lo0p, 2, List.map e_api_Jump data0)] ∧ List.length data0 = N0 ∧ slices_insertionSortCmpFunc_api_Jump_h3 cmp3 data0 a1 b2 i8 j9 = some out1) ?_ ⟨data0, i8, .eq (by kernel_rfl), hO, hN, h1⟩
    clear hO hN h1
    rintro T H ⟨data0, j9, hT, hO, hN, h1⟩
    refine C_has hT ?_
    clear hT
    unfold slices_insertionSortCmpFunc_api_Jump_h3 at h1
    obtain ⟨rr1, hl1, h1⟩ := bindE h1
    refine C_loopS (by kernel_rfl) (fun (s : List api_Jump × Int) T H => Has T [(0, (.msl 2 lo0p 0 (List.length s.1))), (1, (eInt .i64 a1)), (2, (eInt .i64 b2)), (3, (.fn (.func cmp3_f) cmp3_a cmp3_c)), (8, (eInt .i64 i8)), (9, (eInt .i64 s.2))] ∧ Owns ⟨H0, [lo0p], []⟩ H [(lo0p, 2, List.map e_api_Jump s.1)] ∧ List.length s.1 = N0) hl1 ⟨.eq (by kernel_rfl), hO, hN⟩ ?_
    clear hO hN
    rintro k1 s out2 T H ⟨hT, hO, hN⟩ h2 ho1
    obtain ⟨data0, j9⟩ := s
    replace h2 : slices_insertionSortCmpFunc_api_Jump_l3 cmp3 a1 b2 i8 data0 j9 = some out2 := h2
    dsimp only at hT
    refine C_has hT ?_
    clear hT
    unfold slices_insertionSortCmpFunc_api_Jump_l3 at h2
    refine C_sq ?_
    refine C_sq ?_
    obtain ⟨c2, h2⟩ := asrtE h2
    obtain ⟨c3, h2⟩ := asrtE h2
    obtain ⟨x4, hx5, h2⟩ := bindE h2
    refine C_dg (plOf []) ttOk 17 ?_
    refine D_mono (K := fun T H => Has (lift T) [(0, (.msl 2 lo0p 0 (List.length data0))), (1, (eInt .i64 a1)), (2, (eInt .i64 b2)), (3, (.fn (.func cmp3_f) cmp3_a cmp3_c)), (8, (eInt .i64 i8)), (9, (eInt .i64 j9)), (34, (eBool ((decide (a1 < j9)) && (decide (x4 < (0 : Int))))))] ∧ Owns ⟨H0, [lo0p], []⟩ H [(lo0p, 2, List.map e_api_Jump data0)]) ?_ ?_
    · refine D_pu 4 ?_
      refine D_split (t := 21) (e := decide (a1 < j9)) (by kernel_rfl) (fun hg6 => ?_) (fun hg6 => ?_)
      · refine D_ps 8 [0 ≤ j9 ∧ j9 < ((List.length data0 : Nat) : Int)] ⟨(c2 (by first | (simp only [hg6, Bool.not_true, Bool.not_false, Bool.true_and, Bool.and_true, Bool.false_and, Bool.and_false, Bool.or_true, Bool.true_or, Bool.or_false, Bool.false_or, cond_true, cond_false]; done) | simp [hg6])), trivial⟩ ?_
        refine D_loadV 0 lo0p 2 (0 + Int.toNat j9) (e_api_Jump (List.getD data0 (Int.toNat j9) default)) (e_api_Jump (List.getD data0 (Int.toNat j9) default)) (List.map e_api_Jump data0) (by kernel_rfl) (by kernel_rfl) (by kernel_rfl) hO (by kernel_rfl) (ownGet (c2 (by first | (simp only [hg6, Bool.not_true, Bool.not_false, Bool.true_and, Bool.and_true, Bool.false_and, Bool.and_false, Bool.or_true, Bool.true_or, Bool.or_false, Bool.false_or, cond_true, cond_false]; done) | simp [hg6]))) ?_
        refine D_ps 13 [0 ≤ (IntKind.i64.wrap (j9 - (1 : Int))) ∧ (IntKind.i64.wrap (j9 - (1 : Int))) < ((List.length data0 : Nat) : Int)] ⟨(c3 (by first | (simp only [hg6, Bool.not_true, Bool.not_false, Bool.true_and, Bool.and_true, Bool.false_and, Bool.and_false, Bool.or_true, Bool.true_or, Bool.or_false, Bool.false_or, cond_true, cond_false]; done) | simp [hg6])), trivial⟩ ?_
        refine D_loadV 0 lo0p 2 (0 + Int.toNat (IntKind.i64.wrap (j9 - (1 : Int)))) (e_api_Jump (List.getD data0 (Int.toNat (IntKind.i64.wrap (j9 - (1 : Int)))) default)) (e_api_Jump (List.getD data0 (Int.toNat (IntKind.i64.wrap (j9 - (1 : Int)))) default)) (List.map e_api_Jump data0) (by kernel_rfl) (by kernel_rfl) (by kernel_rfl) hO (by kernel_rfl) (ownGet (c3 (by first | (simp only [hg6, Bool.not_true, Bool.not_false, Bool.true_and, Bool.and_true, Bool.false_and, Bool.and_false, Bool.or_true, Bool.true_or, Bool.or_false, Bool.false_or, cond_true, cond_false]; done) | simp [hg6]))) ?_
        refine D_callV cmp3_f (cmp3_a ++ [(e_api_Jump (List.getD data0 (Int.toNat j9) default)), (e_api_Jump (List.getD data0 (Int.toNat (IntKind.i64.wrap (j9 - (1 : Int)))) default))] ++ cmp3_c) (eInt .i64 x4) (by kernel_rfl) (by kernel_rfl) (cmp3_h (List.getD data0 (Int.toNat j9) default) (List.getD data0 (Int.toNat (IntKind.i64.wrap (j9 - (1 : Int)))) default) _ (gcallE hx5 (by first | (simp only [hg6, Bool.not_true, Bool.not_false, Bool.true_and, Bool.and_true, Bool.false_and, Bool.and_false, Bool.or_true, Bool.true_or, Bool.or_false, Bool.false_or, cond_true, cond_false]; done) | simp [hg6]))) hO ?_
        intro H hO
        refine D_al ?_
        exact ⟨⟨[(0, (.msl 2 lo0p 0 (List.length data0))), (1, (eInt .i64 a1)), (2, (eInt .i64 b2)), (3, (.fn (.func cmp3_f) cmp3_a cmp3_c)), (8, (eInt .i64 i8)), (9, (eInt .i64 j9)), (34, (eBool (decide (x4 < (0 : Int)))))], by kernel_rfl, rfl, ⟨SubV.refl _, SubV.refl _, SubV.refl _, SubV.refl _, SubV.refl _, SubV.refl _, SubV.eq (by first | (simp only [eBool, hg6, Bool.not_true, Bool.not_false, Bool.true_and, Bool.and_true, Bool.false_and, Bool.and_false, Bool.or_true, Bool.true_or, Bool.or_false, Bool.false_or, cond_true, cond_false]; done) | simp [eBool, hg6]), trivial⟩⟩, hO⟩
      refine D_al ?_
      exact ⟨⟨[(0, (.msl 2 lo0p 0 (List.length data0))), (1, (eInt .i64 a1)), (2, (eInt .i64 b2)), (3, (.fn (.func cmp3_f) cmp3_a cmp3_c)), (8, (eInt .i64 i8)), (9, (eInt .i64 j9)), (34, (eBool false))], by kernel_rfl, rfl, ⟨SubV.refl _, SubV.refl _, SubV.refl _, SubV.refl _, SubV.refl _, SubV.refl _, SubV.eq (by first | (simp only [eBool, hg6, Bool.not_true, Bool.not_false, Bool.true_and, Bool.and_true, Bool.false_and, Bool.and_false, Bool.or_true, Bool.true_or, Bool.or_false, Bool.false_or, cond_true, cond_false]; done) | simp [eBool, hg6]), trivial⟩⟩, hO⟩
    · rintro T H ⟨hT, hO⟩
      refine E_has hT ?_
      clear hT
      refine E_done (thenA_normal ?_)
      refine C_cd h2 (fun h2 => ?_) (fun h2 => ?_)
      · refine C_sk ?_
        refine E_tn [(0, (.msl 2 lo0p 0 (List.length data0))), (1, (eInt .i64 a1)), (2, (eInt .i64 b2)), (3, (.fn (.func cmp3_f) cmp3_a cmp3_c)), (8, (eInt .i64 i8)), (9, (eInt .i64 j9))] ?_
        refine C_sq ?_
        refine C_bk 3 ?_
        refine C_dg (plOf []) ttOk 18 ?_
        obtain ⟨c8, h2⟩ := asrtE h2
        refine D_ps 9 [0 ≤ (IntKind.i64.wrap (j9 - (1 : Int))) ∧ (IntKind.i64.wrap (j9 - (1 : Int))) < ((List.length data0 : Nat) : Int)] ⟨c8, trivial⟩ ?_
        refine D_lO 0 lo0p 2 (0 + Int.toNat (IntKind.i64.wrap (j9 - (1 : Int)))) (e_api_Jump (List.getD data0 (Int.toNat (IntKind.i64.wrap (j9 - (1 : Int)))) default)) (e_api_Jump (List.getD data0 (Int.toNat (IntKind.i64.wrap (j9 - (1 : Int)))) default)) (List.map e_api_Jump data0) hO (ownGet c8) ?_
        obtain ⟨c9, h2⟩ := asrtE h2
        refine D_ps 13 [0 ≤ j9 ∧ j9 < ((List.length data0 : Nat) : Int)] ⟨c9, trivial⟩ ?_
        refine D_lO 0 lo0p 2 (0 + Int.toNat j9) (e_api_Jump (List.getD data0 (Int.toNat j9) default)) (e_api_Jump (List.getD data0 (Int.toNat j9) default)) (List.map e_api_Jump data0) hO (ownGet c9) ?_
        obtain ⟨c10, h2⟩ := asrtE h2
        refine D_ps 15 [0 ≤ j9 ∧ j9 < ((List.length data0 : Nat) : Int)] ⟨c10, trivial⟩ ?_
        refine D_sO 0 lo0p 2 (0 + Int.toNat j9) (e_api_Jump (List.getD data0 (Int.toNat j9) default)) (e_api_Jump (List.getD data0 (Int.toNat (IntKind.i64.wrap (j9 - (1 : Int)))) default)) (List.map e_api_Jump data0) [(lo0p, 2, List.map e_api_Jump (List.set data0 (Int.toNat j9) (List.getD data0 (Int.toNat (IntKind.i64.wrap (j9 - (1 : Int)))) default)))] hO (ownGet c10) (by simp only [List.set, ownSet]) ?_
        intro H hO
        replace hN : List.length (List.set data0 (Int.toNat j9) (List.getD data0 (Int.toNat (IntKind.i64.wrap (j9 - (1 : Int)))) default)) = N0 := by simpa using hN
        obtain ⟨c11, h2⟩ := asrtE h2
        refine D_ps 17 [0 ≤ (IntKind.i64.wrap (j9 - (1 : Int))) ∧ (IntKind.i64.wrap (j9 - (1 : Int))) < ((List.length data0 : Nat) : Int)] ⟨c11, trivial⟩ ?_
        refine D_sO 0 lo0p 2 (0 + Int.toNat (IntKind.i64.wrap (j9 - (1 : Int)))) (e_api_Jump (List.getD (List.set data0 (Int.toNat j9) (List.getD data0 (Int.toNat (IntKind.i64.wrap (j9 - (1 : Int)))) default)) (Int.toNat (IntKind.i64.wrap (j9 - (1 : Int)))) default)) (e_api_Jump (List.getD data0 (Int.toNat j9) default)) (List.map e_api_Jump (List.set data0 (Int.toNat j9) (List.getD data0 (Int.toNat (IntKind.i64.wrap (j9 - (1 : Int)))) default))) [(lo0p, 2, List.map e_api_Jump (List.set (List.set data0 (Int.toNat j9) (List.getD data0 (Int.toNat (IntKind.i64.wrap (j9 - (1 : Int)))) default)) (Int.toNat (IntKind.i64.wrap (j9 - (1 : Int)))) (List.getD data0 (Int.toNat j9) default)))] hO (ownGetN c11 (by simp [])) (by simp only [List.set, ownSet]) ?_
        intro H hO
        replace hN : List.length (List.set (List.set data0 (Int.toNat j9) (List.getD data0 (Int.toNat (IntKind.i64.wrap (j9 - (1 : Int)))) default)) (Int.toNat (IntKind.i64.wrap (j9 - (1 : Int)))) (List.getD data0 (Int.toNat j9) default)) = N0 := by simpa using hN
        refine D_end (by kernel_rfl) ?_
        refine E_has (l := [(0, (.msl 2 lo0p 0 (List.length (List.set (List.set data0 (Int.toNat j9) (List.getD data0 (Int.toNat (IntKind.i64.wrap (j9 - (1 : Int)))) default)) (Int.toNat (IntKind.i64.wrap (j9 - (1 : Int)))) (List.getD data0 (Int.toNat j9) default))))), (1, (eInt .i64 a1)), (2, (eInt .i64 b2)), (3, (.fn (.func cmp3_f) cmp3_a cmp3_c)), (8, (eInt .i64 i8)), (9, (eInt .i64 j9))]) ⟨[(0, (.msl 2 lo0p 0 (List.length data0))), (1, (eInt .i64 a1)), (2, (eInt .i64 b2)), (3, (.fn (.func cmp3_f) cmp3_a cmp3_c)), (8, (eInt .i64 i8)), (9, (eInt .i64 j9))], by kernel_rfl, rfl, ⟨SubV.eq (by simp []), SubV.refl _, SubV.refl _, SubV.refl _, SubV.refl _, SubV.refl _, trivial⟩⟩ ?_
        refine E_done (blockA_normal (thenA_normal (?_)))
        refine C_rg ttOk 3 ?_
        refine R_al ?_
        exact E_done (thenA_normal (⟨rfl, (List.set (List.set data0 (Int.toNat j9) (List.getD data0 (Int.toNat (IntKind.i64.wrap (j9 - (1 : Int)))) default)) (Int.toNat (IntKind.i64.wrap (j9 - (1 : Int)))) (List.getD data0 (Int.toNat j9) default), IntKind.i64.wrap (j9 - (1 : Int))), (Option.some.inj h2).symm, .eq (by kernel_rfl), hO, hN⟩))
      refine C_ex 2 ?_
      obtain rfl := Option.some.inj h2
      obtain rfl : _ = rr1 := ho1
      replace h1 : slices_insertionSortCmpFunc_api_Jump_j2 cmp3 data0 a1 b2 i8 = some out1 := h1
      exact E_done (thenA_exit (thenA_exit (blockA_hit (blockA_normal (thenA_normal (⟨rfl, data0, .eq (by kernel_rfl), hO, hN, h1⟩))))))
  refine C_ex 0 ?_
  obtain rfl := Option.some.inj h1
  obtain rfl : _ = rr0 := ho0
  replace h0 : some data0 = some r := h0
  obtain rfl := Option.some.inj h0
  exact E_done (thenA_exit (thenA_exit (blockA_hit (Q_end (x := (.tup [])) (by kernel_rfl) (SubV.refl _) ⟨rfl, hO.ext, hO.at 0 (by kernel_rfl), by simp only [List.length_map]; exact hN.trans hN0⟩))))

theorem w_slices_swapRangeCmpFunc_api_Jump (lo0p : Nat) (data0 : (List api_Jump)) (a1 : Int) (b2 : Int) (n3 : Int) (cmp4_f : Nat) (cmp4_a cmp4_c : List V) (cmp4 : api_Jump → api_Jump → Option Int) (cmp4_h : ∀ a0 a1 r, cmp4 a0 a1 = some r → Fine Try.prog cmp4_f (cmp4_a ++ [(e_api_Jump a0), (e_api_Jump a1)] ++ cmp4_c) (eInt .i64 r)) (r : List api_Jump) (h0 : s_slices_swapRangeCmpFunc_api_Jump data0 a1 b2 n3 cmp4 = some r) : FineI Try.prog 126 lo0p 2 (List.map e_api_Jump data0) (List.map e_api_Jump r) [(.msl 2 lo0p 0 (List.length data0)), (eInt .i64 a1), (eInt .i64 b2), (eInt .i64 n3), (.fn (.func cmp4_f) cmp4_a cmp4_c)] (.tup []) := by
  intro H0 hl0
  refine F_wk Try.func126 ?_
  have hO := Owns.start1 hl0
  clear hl0
  obtain ⟨N0, hN0⟩ : ∃ n, n = List.length data0 := ⟨_, rfl⟩
  have hN : List.length data0 = N0 := hN0.symm
  unfold s_slices_swapRangeCmpFunc_api_Jump at h0
  refine S_al ttOk 1 [4] [(10, (eInt .i64 (0 : Int)))] ?_
  refine C_bk 0 ?_
  refine C_hk [(0, (.msl 2 lo0p 0 (List.length data0))), (1, (eInt .i64 a1)), (2, (eInt .i64 b2)), (3, (eInt .i64 n3)), (10, (eInt .i64 (0 : Int)))] ?_
  refine C_cut (fun T H => ∃ data0 : List api_Jump, ∃ i10 : Int, Has T [(0, (.msl 2 lo0p 0 (List.length data0))), (1, (eInt .i64 a1)), (2, (eInt .i64 b2)), (3, (eInt .i64 n3)), (10, (eInt .i64 i10))] ∧ Owns ⟨H0, [lo0p], []⟩ H [(lo0p, 2, List.map e_api_Jump data0)] ∧ List.length data0 = N0 ∧ slices_swapRangeCmpFunc_api_Jump_h1 cmp4 data0 a1 b2 n3 i10 = some r) ?_ ⟨data0, (0 : Int), .eq (by kernel_rfl), hO, hN, h0⟩
  clear hO hN h0
  rintro T H ⟨data0, i10, hT, hO, hN, h0⟩
  refine C_has hT ?_
  clear hT
  unfold slices_swapRangeCmpFunc_api_Jump_h1 at h0
  obtain ⟨rr0, hl0, h0⟩ := bindE h0
  refine C_loopS (by kernel_rfl) (fun (s : List api_Jump × Int) T H => Has T [(0, (.msl 2 lo0p 0 (List.length s.1))), (1, (eInt .i64 a1)), (2, (eInt .i64 b2)), (3, (eInt .i64 n3)), (10, (eInt .i64 s.2))] ∧ Owns ⟨H0, [lo0p], []⟩ H [(lo0p, 2, List.map e_api_Jump s.1)] ∧ List.length s.1 = N0) hl0 ⟨.eq (by kernel_rfl), hO, hN⟩ ?_
  clear hO hN
  rintro k0 s out1 T H ⟨hT, hO, hN⟩ h1 ho0
  obtain ⟨data0, i10⟩ := s
  replace h1 : slices_swapRangeCmpFunc_api_Jump_l1 cmp4 a1 b2 n3 data0 i10 = some out1 := h1
  dsimp only at hT
  refine C_has hT ?_
  clear hT
  unfold slices_swapRangeCmpFunc_api_Jump_l1 at h1
  refine C_sq ?_
  refine S_al ttOk 3 [] [(13, (eBool (decide (i10 < n3))))] ?_
  refine C_cd h1 (fun h1 => ?_) (fun h1 => ?_)
  · refine C_sk ?_
    refine E_tn [(0, (.msl 2 lo0p 0 (List.length data0))), (1, (eInt .i64 a1)), (2, (eInt .i64 b2)), (3, (eInt .i64 n3)), (10, (eInt .i64 i10))] ?_
    refine C_sq ?_
    refine C_bk 1 ?_
    refine C_dg (plOf []) ttOk 24 ?_
    obtain ⟨c2, h1⟩ := asrtE h1
    refine D_ps 13 [0 ≤ (IntKind.i64.wrap (b2 + i10)) ∧ (IntKind.i64.wrap (b2 + i10)) < ((List.length data0 : Nat) : Int)] ⟨c2, trivial⟩ ?_
    refine D_lO 0 lo0p 2 (0 + Int.toNat (IntKind.i64.wrap (b2 + i10))) (e_api_Jump (List.getD data0 (Int.toNat (IntKind.i64.wrap (b2 + i10))) default)) (e_api_Jump (List.getD data0 (Int.toNat (IntKind.i64.wrap (b2 + i10))) default)) (List.map e_api_Jump data0) hO (ownGet c2) ?_
    obtain ⟨c3, h1⟩ := asrtE h1
    refine D_ps 19 [0 ≤ (IntKind.i64.wrap (a1 + i10)) ∧ (IntKind.i64.wrap (a1 + i10)) < ((List.length data0 : Nat) : Int)] ⟨c3, trivial⟩ ?_
    refine D_lO 0 lo0p 2 (0 + Int.toNat (IntKind.i64.wrap (a1 + i10))) (e_api_Jump (List.getD data0 (Int.toNat (IntKind.i64.wrap (a1 + i10))) default)) (e_api_Jump (List.getD data0 (Int.toNat (IntKind.i64.wrap (a1 + i10))) default)) (List.map e_api_Jump data0) hO (ownGet c3) ?_
    obtain ⟨c4, h1⟩ := asrtE h1
    refine D_ps 21 [0 ≤ (IntKind.i64.wrap (a1 + i10)) ∧ (IntKind.i64.wrap (a1 + i10)) < ((List.length data0 : Nat) : Int)] ⟨c4, trivial⟩ ?_
    refine D_sO 0 lo0p 2 (0 + Int.toNat (IntKind.i64.wrap (a1 + i10))) (e_api_Jump (List.getD data0 (Int.toNat (IntKind.i64.wrap (a1 + i10))) default)) (e_api_Jump (List.getD data0 (Int.toNat (IntKind.i64.wrap (b2 + i10))) default)) (List.map e_api_Jump data0) [(lo0p, 2, List.map e_api_Jump (List.set data0 (Int.toNat (IntKind.i64.wrap (a1 + i10))) (List.getD data0 (Int.toNat (IntKind.i64.wrap (b2 + i10))) default)))] hO (ownGet c4) (by simp only [List.set, ownSet]) ?_
    intro H hO
    replace hN : List.length (List.set data0 (Int.toNat (IntKind.i64.wrap (a1 + i10))) (List.getD data0 (Int.toNat (IntKind.i64.wrap (b2 + i10))) default)) = N0 := by simpa using hN
    obtain ⟨c5, h1⟩ := asrtE h1
    refine D_ps 23 [0 ≤ (IntKind.i64.wrap (b2 + i10)) ∧ (IntKind.i64.wrap (b2 + i10)) < ((List.length data0 : Nat) : Int)] ⟨c5, trivial⟩ ?_
    refine D_sO 0 lo0p 2 (0 + Int.toNat (IntKind.i64.wrap (b2 + i10))) (e_api_Jump (List.getD (List.set data0 (Int.toNat (IntKind.i64.wrap (a1 + i10))) (List.getD data0 (Int.toNat (IntKind.i64.wrap (b2 + i10))) default)) (Int.toNat (IntKind.i64.wrap (b2 + i10))) default)) (e_api_Jump (List.getD data0 (Int.toNat (IntKind.i64.wrap (a1 + i10))) default)) (List.map e_api_Jump (List.set data0 (Int.toNat (IntKind.i64.wrap (a1 + i10))) (List.getD data0 (Int.toNat (IntKind.i64.wrap (b2 + i10))) default))) [(lo0p, 2, List.map e_api_Jump (List.set (List.set data0 (Int.toNat (IntKind.i64.wrap (a1 + i10))) (List.getD data0 (Int.toNat (IntKind.i64.wrap (b2 + i10))) default)) (Int.toNat (IntKind.i64.wrap (b2 + i10))) (List.getD data0 (Int.toNat (IntKind.i64.wrap (a1 + i10))) default)))] hO (ownGetN c5 (by simp [])) (by simp only [List.set, ownSet]) ?_
    intro H hO
    replace hN : List.length (List.set (List.set data0 (Int.toNat (IntKind.i64.wrap (a1 + i10))) (List.getD data0 (Int.toNat (IntKind.i64.wrap (b2 + i10))) default)) (Int.toNat (IntKind.i64.wrap (b2 + i10))) (List.getD data0 (Int.toNat (IntKind.i64.wrap (a1 + i10))) default)) = N0 := by simpa using hN
    refine D_end (by kernel_rfl) ?_
    refine E_has (l := [(0, (.msl 2 lo0p 0 (List.length (List.set (List.set data0 (Int.toNat (IntKind.i64.wrap (a1 + i10))) (List.getD data0 (Int.toNat (IntKind.i64.wrap (b2 + i10))) default)) (Int.toNat (IntKind.i64.wrap (b2 + i10))) (List.getD data0 (Int.toNat (IntKind.i64.wrap (a1 + i10))) default))))), (1, (eInt .i64 a1)), (2, (eInt .i64 b2)), (3, (eInt .i64 n3)), (10, (eInt .i64 i10))]) ⟨[(0, (.msl 2 lo0p 0 (List.length data0))), (1, (eInt .i64 a1)), (2, (eInt .i64 b2)), (3, (eInt .i64 n3)), (10, (eInt .i64 i10))], by kernel_rfl, rfl, ⟨SubV.eq (by simp []), SubV.refl _, SubV.refl _, SubV.refl _, SubV.refl _, trivial⟩⟩ ?_
    refine E_done (blockA_normal (thenA_normal (?_)))
    refine C_rg ttOk 3 ?_
    refine R_al ?_
    exact E_done (thenA_normal (⟨rfl, (List.set (List.set data0 (Int.toNat (IntKind.i64.wrap (a1 + i10))) (List.getD data0 (Int.toNat (IntKind.i64.wrap (b2 + i10))) default)) (Int.toNat (IntKind.i64.wrap (b2 + i10))) (List.getD data0 (Int.toNat (IntKind.i64.wrap (a1 + i10))) default), IntKind.i64.wrap (i10 + (1 : Int))), (Option.some.inj h1).symm, .eq (by kernel_rfl), hO, hN⟩))
  refine C_ex 0 ?_
  obtain rfl := Option.some.inj h1
  obtain rfl : _ = rr0 := ho0
  replace h0 : some data0 = some r := h0
  obtain rfl := Option.some.inj h0
  exact E_done (thenA_exit (thenA_exit (blockA_hit (Q_end (x := (.tup [])) (by kernel_rfl) (SubV.refl _) ⟨rfl, hO.ext, hO.at 0 (by kernel_rfl), by simp only [List.length_map]; exact hN.trans hN0⟩))))

theorem w_slices_rotateCmpFunc_api_Jump (lo0p : Nat) (data0 : (List api_Jump)) (a1 : Int) (m2 : Int) (b3 : Int) (cmp4_f : Nat) (cmp4_a cmp4_c : List V) (cmp4 : api_Jump → api_Jump → Option Int) (cmp4_h : ∀ a0 a1 r, cmp4 a0 a1 = some r → Fine Try.prog cmp4_f (cmp4_a ++ [(e_api_Jump a0), (e_api_Jump a1)] ++ cmp4_c) (eInt .i64 r)) (r : List api_Jump) (h0 : s_slices_rotateCmpFunc_api_Jump data0 a1 m2 b3 cmp4 = some r) : FineI Try.prog 125 lo0p 2 (List.map e_api_Jump data0) (List.map e_api_Jump r) [(.msl 2 lo0p 0 (List.length data0)), (eInt .i64 a1), (eInt .i64 m2), (eInt .i64 b3), (.fn (.func cmp4_f) cmp4_a cmp4_c)] (.tup []) := by
  intro H0 hl0
  refine F_wk Try.func125 ?_
  have hO := Owns.start1 hl0
  clear hl0
  obtain ⟨N0, hN0⟩ : ∃ n, n = List.length data0 := ⟨_, rfl⟩
  have hN : List.length data0 = N0 := hN0.symm
  unfold s_slices_rotateCmpFunc_api_Jump at h0
  refine S_al ttOk 4 [1] [(10, (eInt .i64 (IntKind.i64.wrap (m2 - a1))))] ?_
  refine S_al ttOk 4 [3] [(11, (eInt .i64 (IntKind.i64.wrap (b3 - m2))))] ?_
  refine C_sj (fun T H => ∃ data0 : List api_Jump, ∃ i10 : Int, Has T [(0, (.msl 2 lo0p 0 (List.length data0))), (2, (eInt .i64 m2)), (4, (.fn (.func cmp4_f) cmp4_a cmp4_c)), (10, (eInt .i64 i10))] ∧ Owns ⟨H0, [lo0p], []⟩ H [(lo0p, 2, List.map e_api_Jump data0)] ∧ List.length data0 = N0 ∧ slices_rotateCmpFunc_api_Jump_j1 cmp4 data0 m2 i10 = some r) ?_ ?_
  · clear hO hN h0
    rintro T H ⟨data0, i10, hT, hO, hN, h0⟩
    refine C_has hT ?_
    clear hT
    unfold slices_rotateCmpFunc_api_Jump_j1 at h0
    refine C_rg ttOk 8 ?_
    refine R_pu 7 ?_
    obtain ⟨x1, hx2, h0⟩ := bindE h0
    refine R_callI (L' := [(lo0p, 2, List.map e_api_Jump x1)]) 0 lo0p 2 (List.map e_api_Jump data0) (List.map e_api_Jump x1) 126 [(.msl 2 lo0p 0 (List.length data0)), (eInt .i64 (IntKind.i64.wrap (m2 - i10))), (eInt .i64 m2), (eInt .i64 i10), (.fn (.func cmp4_f) cmp4_a cmp4_c)] (.tup []) (by kernel_rfl) (by kernel_rfl) (w_slices_swapRangeCmpFunc_api_Jump lo0p data0 (IntKind.i64.wrap (m2 - i10)) m2 i10 cmp4_f cmp4_a cmp4_c cmp4 cmp4_h _ hx2) hO (by kernel_rfl) (by kernel_rfl) ?_
    intro H hO hl3
    simp only [List.length_map] at hl3
    replace hN := hl3.trans hN
    refine R_en ?_
    refine E_has (l := [(0, (.msl 2 lo0p 0 (List.length x1)))]) ⟨[(0, (.msl 2 lo0p 0 (List.length data0)))], by kernel_rfl, rfl, ⟨SubV.eq (by simp [hl3]), trivial⟩⟩ ?_
    obtain rfl := Option.some.inj h0
    exact E_done (Q_end (x := (.tup [])) (by kernel_rfl) (SubV.refl _) ⟨rfl, hO.ext, hO.at 0 (by kernel_rfl), by simp only [List.length_map]; exact hN.trans hN0⟩)
  refine C_bk 0 ?_
  refine C_hk [(0, (.msl 2 lo0p 0 (List.length data0))), (2, (eInt .i64 m2)), (4, (.fn (.func cmp4_f) cmp4_a cmp4_c)), (10, (eInt .i64 (IntKind.i64.wrap (m2 - a1)))), (11, (eInt .i64 (IntKind.i64.wrap (b3 - m2))))] ?_
  refine C_cut (fun T H => ∃ data0 : List api_Jump, ∃ i10 : Int, ∃ j11 : Int, Has T [(0, (.msl 2 lo0p 0 (List.length data0))), (2, (eInt .i64 m2)), (4, (.fn (.func cmp4_f) cmp4_a cmp4_c)), (10, (eInt .i64 i10)), (11, (eInt .i64 j11))] ∧ Owns ⟨H0, [lo0p], []⟩ H [(lo0p, 2, List.map e_api_Jump data0)] ∧ List.length data0 = N0 ∧ slices_rotateCmpFunc_api_Jump_h2 cmp4 data0 m2 i10 j11 = some r) ?_ ⟨data0, IntKind.i64.wrap (m2 - a1), IntKind.i64.wrap (b3 - m2), .eq (by kernel_rfl), hO, hN, h0⟩
  clear hO hN h0
  rintro T H ⟨data0, i10, j11, hT, hO, hN, h0⟩
  refine C_has hT ?_
  clear hT
  unfold slices_rotateCmpFunc_api_Jump_h2 at h0
  obtain ⟨rr0, hl0, h0⟩ := bindE h0
  refine C_loopS (by kernel_rfl) (fun (s : List api_Jump × Int × Int) T H => Has T [(0, (.msl 2 lo0p 0 (List.length s.1))), (2, (eInt .i64 m2)), (4, (.fn (.func cmp4_f) cmp4_a cmp4_c)), (10, (eInt .i64 s.2.1)), (11, (eInt .i64 s.2.2))] ∧ Owns ⟨H0, [lo0p], []⟩ H [(lo0p, 2, List.map e_api_Jump s.1)] ∧ List.length s.1 = N0) hl0 ⟨.eq (by kernel_rfl), hO, hN⟩ ?_
  clear hO hN
  rintro k0 s out1 T H ⟨hT, hO, hN⟩ h1 ho0
  obtain ⟨data0, i10, j11⟩ := s
  replace h1 : slices_rotateCmpFunc_api_Jump_l2 cmp4 m2 data0 i10 j11 = some out1 := h1
  dsimp only at hT
  refine C_has hT ?_
  clear hT
  unfold slices_rotateCmpFunc_api_Jump_l2 at h1
  refine C_sq ?_
  refine S_al ttOk 3 [] [(20, (eBool (!decide (i10 = j11))))] ?_
  refine C_cd h1 (fun h1 => ?_) (fun h1 => ?_)
  · refine C_sk ?_
    refine E_tn [(0, (.msl 2 lo0p 0 (List.length data0))), (2, (eInt .i64 m2)), (4, (.fn (.func cmp4_f) cmp4_a cmp4_c)), (10, (eInt .i64 i10)), (11, (eInt .i64 j11))] ?_
    refine C_bk 1 ?_
    refine S_al ttOk 3 [] [(23, (eBool (decide (j11 < i10))))] ?_
    refine C_cd h1 (fun h1 => ?_) (fun h1 => ?_)
    · refine C_sq ?_
      refine C_rg ttOk 8 ?_
      refine R_pu 7 ?_
      obtain ⟨x6, hx7, h1⟩ := bindE h1
      refine R_callI (L' := [(lo0p, 2, List.map e_api_Jump x6)]) 0 lo0p 2 (List.map e_api_Jump data0) (List.map e_api_Jump x6) 126 [(.msl 2 lo0p 0 (List.length data0)), (eInt .i64 (IntKind.i64.wrap (m2 - i10))), (eInt .i64 m2), (eInt .i64 j11), (.fn (.func cmp4_f) cmp4_a cmp4_c)] (.tup []) (by kernel_rfl) (by kernel_rfl) (w_slices_swapRangeCmpFunc_api_Jump lo0p data0 (IntKind.i64.wrap (m2 - i10)) m2 j11 cmp4_f cmp4_a cmp4_c cmp4 cmp4_h _ hx7) hO (by kernel_rfl) (by kernel_rfl) ?_
      intro H hO hl8
      simp only [List.length_map] at hl8
      replace hN := hl8.trans hN
      refine R_en ?_
      refine E_has (l := [(0, (.msl 2 lo0p 0 (List.length x6))), (2, (eInt .i64 m2)), (4, (.fn (.func cmp4_f) cmp4_a cmp4_c)), (10, (eInt .i64 i10)), (11, (eInt .i64 j11))]) ⟨[(0, (.msl 2 lo0p 0 (List.length data0))), (2, (eInt .i64 m2)), (4, (.fn (.func cmp4_f) cmp4_a cmp4_c)), (10, (eInt .i64 i10)), (11, (eInt .i64 j11))], by kernel_rfl, rfl, ⟨SubV.eq (by simp [hl8]), SubV.refl _, SubV.refl _, SubV.refl _, SubV.refl _, trivial⟩⟩ ?_
      refine E_done (thenA_normal (?_))
      refine C_rg ttOk 4 ?_
      refine R_al ?_
      exact E_done (blockA_normal (thenA_normal (⟨rfl, (x6, IntKind.i64.wrap (i10 - j11), j11), (Option.some.inj h1).symm, .eq (by kernel_rfl), hO, hN⟩)))
    refine C_sq ?_
    refine C_rg ttOk 12 ?_
    refine R_pu 11 ?_
    obtain ⟨x9, hx10, h1⟩ := bindE h1
    refine R_callI (L' := [(lo0p, 2, List.map e_api_Jump x9)]) 0 lo0p 2 (List.map e_api_Jump data0) (List.map e_api_Jump x9) 126 [(.msl 2 lo0p 0 (List.length data0)), (eInt .i64 (IntKind.i64.wrap (m2 - i10))), (eInt .i64 (IntKind.i64.wrap ((IntKind.i64.wrap (m2 + j11)) - i10))), (eInt .i64 i10), (.fn (.func cmp4_f) cmp4_a cmp4_c)] (.tup []) (by kernel_rfl) (by kernel_rfl) (w_slices_swapRangeCmpFunc_api_Jump lo0p data0 (IntKind.i64.wrap (m2 - i10)) (IntKind.i64.wrap ((IntKind.i64.wrap (m2 + j11)) - i10)) i10 cmp4_f cmp4_a cmp4_c cmp4 cmp4_h _ hx10) hO (by kernel_rfl) (by kernel_rfl) ?_
    intro H hO hl11
    simp only [List.length_map] at hl11
    replace hN := hl11.trans hN
    refine R_en ?_
    refine E_has (l := [(0, (.msl 2 lo0p 0 (List.length x9))), (2, (eInt .i64 m2)), (4, (.fn (.func cmp4_f) cmp4_a cmp4_c)), (10, (eInt .i64 i10)), (11, (eInt .i64 j11))]) ⟨[(0, (.msl 2 lo0p 0 (List.length data0))), (2, (eInt .i64 m2)), (4, (.fn (.func cmp4_f) cmp4_a cmp4_c)), (10, (eInt .i64 i10)), (11, (eInt .i64 j11))], by kernel_rfl, rfl, ⟨SubV.eq (by simp [hl11]), SubV.refl _, SubV.refl _, SubV.refl _, SubV.refl _, trivial⟩⟩ ?_
    refine E_done (thenA_normal (?_))
    refine C_rg ttOk 4 ?_
    refine R_al ?_
    exact E_done (blockA_normal (thenA_normal (⟨rfl, (x9, i10, IntKind.i64.wrap (j11 - i10)), (Option.some.inj h1).symm, .eq (by kernel_rfl), hO, hN⟩)))
  refine C_ex 0 ?_
  obtain rfl := Option.some.inj h1
  obtain rfl : _ = rr0 := ho0
  replace h0 : slices_rotateCmpFunc_api_Jump_j1 cmp4 data0 m2 i10 = some r := h0
  exact E_done (thenA_exit (thenA_exit (blockA_hit (thenA_normal (⟨rfl, data0, i10, .eq (by kernel_rfl), hO, hN, h0⟩)))))

theorem w_slices_symMergeCmpFunc_api_Jump_step (cmp4_f : Nat) (cmp4_a cmp4_c : List V) (cmp4 : api_Jump → api_Jump → Option Int) (cmp4_h : ∀ a0 a1 r, cmp4 a0 a1 = some r → Fine Try.prog cmp4_f (cmp4_a ++ [(e_api_Jump a0), (e_api_Jump a1)] ++ cmp4_c) (eInt .i64 r)) (rec : (List api_Jump) → Int → Int → Int → Option (List api_Jump)) (ih : ∀ (lo0p : Nat) (data0 : (List api_Jump)) (a1 : Int) (m2 : Int) (b3 : Int) (r : List api_Jump), rec data0 a1 m2 b3 = some r → FineI Try.prog 122 lo0p 2 (List.map e_api_Jump data0) (List.map e_api_Jump r) [(.msl 2 lo0p 0 (List.length data0)), (eInt .i64 a1), (eInt .i64 m2), (eInt .i64 b3), (.fn (.func cmp4_f) cmp4_a cmp4_c)] (.tup [])) (lo0p : Nat) (data0 : (List api_Jump)) (a1 : Int) (m2 : Int) (b3 : Int) (r : List api_Jump) (h0 : slices_symMergeCmpFunc_api_Jump_step cmp4 rec data0 a1 m2 b3 = some r) : FineI Try.prog 122 lo0p 2 (List.map e_api_Jump data0) (List.map e_api_Jump r) [(.msl 2 lo0p 0 (List.length data0)), (eInt .i64 a1), (eInt .i64 m2), (eInt .i64 b3), (.fn (.func cmp4_f) cmp4_a cmp4_c)] (.tup []) := by
  intro H0 hl0
  refine F_wk Try.func122 ?_
  have hO := Owns.start1 hl0
  clear hl0
  obtain ⟨N0, hN0⟩ : ∃ n, n = List.length data0 := ⟨_, rfl⟩
  have hN : List.length data0 = N0 := hN0.symm
  unfold slices_symMergeCmpFunc_api_Jump_step at h0
  refine C_sj (fun T H => ∃ data0 : List api_Jump, Has T [(0, (.msl 2 lo0p 0 (List.length data0))), (1, (eInt .i64 a1)), (2, (eInt .i64 m2)), (3, (eInt .i64 b3)), (4, (.fn (.func cmp4_f) cmp4_a cmp4_c))] ∧ Owns ⟨H0, [lo0p], []⟩ H [(lo0p, 2, List.map e_api_Jump data0)] ∧ List.length data0 = N0 ∧ slices_symMergeCmpFunc_api_Jump_j1 cmp4 rec data0 a1 m2 b3 = some r) ?_ ?_
  · clear hO hN h0
    rintro T H ⟨data0, hT, hO, hN, h0⟩
    refine C_has hT ?_
    clear hT
    unfold slices_symMergeCmpFunc_api_Jump_j1 at h0
    refine C_sj (fun T H => ∃ data0 : List api_Jump, Has T [(0, (.msl 2 lo0p 0 (List.length data0))), (1, (eInt .i64 a1)), (2, (eInt .i64 m2)), (3, (eInt .i64 b3)), (4, (.fn (.func cmp4_f) cmp4_a cmp4_c))] ∧ Owns ⟨H0, [lo0p], []⟩ H [(lo0p, 2, List.map e_api_Jump data0)] ∧ List.length data0 = N0 ∧ slices_symMergeCmpFunc_api_Jump_j2 cmp4 rec data0 a1 m2 b3 = some r) ?_ ?_
    · clear hO hN h0
      rintro T H ⟨data0, hT, hO, hN, h0⟩
      refine C_has hT ?_
      clear hT
      unfold slices_symMergeCmpFunc_api_Jump_j2 at h0
      refine C_sq ?_
      refine C_rg ttOk 7 ?_
      obtain ⟨c1, h0⟩ := asrtE h0
      refine R_as [0 ≤ (1 : Int)] ⟨c1, trivial⟩ ?_
      refine E_ad [] [(18, (eInt .i64 (IntKind.i64.wrap (Int.fdiv (IntKind.u64.wrap (IntKind.i64.wrap (a1 + b3))) (2 ^ (min (Int.toNat (1 : Int)) 64))))))] ?_
      refine S_al ttOk 4 [] [(19, (eInt .i64 (IntKind.i64.wrap ((IntKind.i64.wrap (Int.fdiv (IntKind.u64.wrap (IntKind.i64.wrap (a1 + b3))) (2 ^ (min (Int.toNat (1 : Int)) 64)))) + m2))))] ?_
      refine S_al ttOk 2 [] [] ?_
      refine C_sj (fun T H => ∃ data0 : List api_Jump, ∃ mid18 : Int, ∃ n19 : Int, ∃ start20 : Int, ∃ r21 : Int, Has T [(0, (.msl 2 lo0p 0 (List.length data0))), (1, (eInt .i64 a1)), (2, (eInt .i64 m2)), (3, (eInt .i64 b3)), (4, (.fn (.func cmp4_f) cmp4_a cmp4_c)), (18, (eInt .i64 mid18)), (19, (eInt .i64 n19)), (20, (eInt .i64 start20)), (21, (eInt .i64 r21))] ∧ Owns ⟨H0, [lo0p], []⟩ H [(lo0p, 2, List.map e_api_Jump data0)] ∧ List.length data0 = N0 ∧ slices_symMergeCmpFunc_api_Jump_j3 cmp4 rec data0 a1 m2 b3 mid18 n19 start20 r21 = some r) ?_ ?_
      · clear hO hN h0
        rintro T H ⟨data0, mid18, n19, start20, r21, hT, hO, hN, h0⟩
        refine C_has hT ?_
        clear hT
        unfold slices_symMergeCmpFunc_api_Jump_j3 at h0
        refine S_al ttOk 3 [] [(22, (eInt .i64 (IntKind.i64.wrap (n19 - (1 : Int)))))] ?_
        refine C_sj (fun T H => ∃ data0 : List api_Jump, ∃ start20 : Int, Has T [(0, (.msl 2 lo0p 0 (List.length data0))), (1, (eInt .i64 a1)), (2, (eInt .i64 m2)), (3, (eInt .i64 b3)), (4, (.fn (.func cmp4_f) cmp4_a cmp4_c)), (18, (eInt .i64 mid18)), (19, (eInt .i64 n19)), (20, (eInt .i64 start20))] ∧ Owns ⟨H0, [lo0p], []⟩ H [(lo0p, 2, List.map e_api_Jump data0)] ∧ List.length data0 = N0 ∧ slices_symMergeCmpFunc_api_Jump_j4 cmp4 rec data0 a1 m2 b3 mid18 n19 start20 = some r) ?_ ?_
        · clear hO hN h0
          rintro T H ⟨data0, start20, hT, hO, hN, h0⟩
          refine C_has hT ?_
          clear hT
          unfold slices_symMergeCmpFunc_api_Jump_j4 at h0
          refine S_al ttOk 4 [19] [(24, (eInt .i64 (IntKind.i64.wrap (n19 - start20))))] ?_
          refine C_sj (fun T H => ∃ data0 : List api_Jump, ∃ end24 : Int, Has T [(0, (.msl 2 lo0p 0 (List.length data0))), (1, (eInt .i64 a1)), (3, (eInt .i64 b3)), (4, (.fn (.func cmp4_f) cmp4_a cmp4_c)), (18, (eInt .i64 mid18)), (20, (eInt .i64 start20)), (24, (eInt .i64 end24))] ∧ Owns ⟨H0, [lo0p], []⟩ H [(lo0p, 2, List.map e_api_Jump data0)] ∧ List.length data0 = N0 ∧ slices_symMergeCmpFunc_api_Jump_j5 cmp4 rec data0 a1 b3 mid18 start20 end24 = some r) ?_ ?_
          · clear hO hN h0
            rintro T H ⟨data0, end24, hT, hO, hN, h0⟩
            refine C_has hT ?_
            clear hT
            unfold slices_symMergeCmpFunc_api_Jump_j5 at h0
            refine C_sj (fun T H => ∃ data0 : List api_Jump, Has T [(0, (.msl 2 lo0p 0 (List.length data0))), (3, (eInt .i64 b3)), (4, (.fn (.func cmp4_f) cmp4_a cmp4_c)), (18, (eInt .i64 mid18)), (24, (eInt .i64 end24))] ∧ Owns ⟨H0, [lo0p], []⟩ H [(lo0p, 2, List.map e_api_Jump data0)] ∧ List.length data0 = N0 ∧ slices_symMergeCmpFunc_api_Jump_j6 cmp4 rec data0 b3 mid18 end24 = some r) ?_ ?_
            · clear hO hN h0
              rintro T H ⟨data0, hT, hO, hN, h0⟩
              refine C_has hT ?_
              clear hT
              unfold slices_symMergeCmpFunc_api_Jump_j6 at h0
              refine S_al ttOk 8 [] [(213, (eBool ((decide (mid18 < end24)) && (decide (end24 < b3)))))] ?_
              refine C_cd h0 (fun h0 => ?_) (fun h0 => ?_)
              · refine C_rg ttOk 6 ?_
                refine R_pu 5 ?_
                obtain ⟨x3, hx4, h0⟩ := bindE h0
                refine R_callI (L' := [(lo0p, 2, List.map e_api_Jump x3)]) 0 lo0p 2 (List.map e_api_Jump data0) (List.map e_api_Jump x3) 122 [(.msl 2 lo0p 0 (List.length data0)), (eInt .i64 mid18), (eInt .i64 end24), (eInt .i64 b3), (.fn (.func cmp4_f) cmp4_a cmp4_c)] (.tup []) (by kernel_rfl) (by kernel_rfl) (ih lo0p data0 mid18 end24 b3 _ hx4) hO (by kernel_rfl) (by kernel_rfl) ?_
                intro H hO hl5
                simp only [List.length_map] at hl5
                replace hN := hl5.trans hN
                refine R_en ?_
                refine E_has (l := [(0, (.msl 2 lo0p 0 (List.length x3)))]) ⟨[(0, (.msl 2 lo0p 0 (List.length data0)))], by kernel_rfl, rfl, ⟨SubV.eq (by simp [hl5]), trivial⟩⟩ ?_
                obtain rfl := Option.some.inj h0
                exact E_done (Q_end (x := (.tup [])) (by kernel_rfl) (SubV.refl _) ⟨rfl, hO.ext, hO.at 0 (by kernel_rfl), by simp only [List.length_map]; exact hN.trans hN0⟩)
              refine C_sk ?_
              obtain rfl := Option.some.inj h0
              exact E_done (Q_end (x := (.tup [])) (by kernel_rfl) (SubV.refl _) ⟨rfl, hO.ext, hO.at 0 (by kernel_rfl), by simp only [List.length_map]; exact hN.trans hN0⟩)
            refine S_al ttOk 8 [] [(199, (eBool ((decide (a1 < start20)) && (decide (start20 < mid18)))))] ?_
            refine C_cd h0 (fun h0 => ?_) (fun h0 => ?_)
            · refine C_rg ttOk 6 ?_
              refine R_pu 5 ?_
              obtain ⟨x7, hx8, h0⟩ := bindE h0
              refine R_callI (L' := [(lo0p, 2, List.map e_api_Jump x7)]) 0 lo0p 2 (List.map e_api_Jump data0) (List.map e_api_Jump x7) 122 [(.msl 2 lo0p 0 (List.length data0)), (eInt .i64 a1), (eInt .i64 start20), (eInt .i64 mid18), (.fn (.func cmp4_f) cmp4_a cmp4_c)] (.tup []) (by kernel_rfl) (by kernel_rfl) (ih lo0p data0 a1 start20 mid18 _ hx8) hO (by kernel_rfl) (by kernel_rfl) ?_
              intro H hO hl9
              simp only [List.length_map] at hl9
              replace hN := hl9.trans hN
              refine R_en ?_
              refine E_has (l := [(0, (.msl 2 lo0p 0 (List.length x7))), (3, (eInt .i64 b3)), (4, (.fn (.func cmp4_f) cmp4_a cmp4_c)), (18, (eInt .i64 mid18)), (24, (eInt .i64 end24))]) ⟨[(0, (.msl 2 lo0p 0 (List.length data0))), (3, (eInt .i64 b3)), (4, (.fn (.func cmp4_f) cmp4_a cmp4_c)), (18, (eInt .i64 mid18)), (24, (eInt .i64 end24))], by kernel_rfl, rfl, ⟨SubV.eq (by simp [hl9]), SubV.refl _, SubV.refl _, SubV.refl _, SubV.refl _, trivial⟩⟩ ?_
              exact E_done (thenA_normal (⟨rfl, x7, .eq (by kernel_rfl), hO, hN, h0⟩))
            refine C_sk ?_
            exact E_done (thenA_normal (⟨rfl, data0, .eq (by kernel_rfl), hO, hN, h0⟩))
          refine S_al ttOk 8 [] [(185, (eBool ((decide (start20 < m2)) && (decide (m2 < (IntKind.i64.wrap (n19 - start20)))))))] ?_
          refine C_cd h0 (fun h0 => ?_) (fun h0 => ?_)
          · refine C_rg ttOk 6 ?_
            refine R_pu 5 ?_
            obtain ⟨x11, hx12, h0⟩ := bindE h0
            refine R_callI (L' := [(lo0p, 2, List.map e_api_Jump x11)]) 0 lo0p 2 (List.map e_api_Jump data0) (List.map e_api_Jump x11) 125 [(.msl 2 lo0p 0 (List.length data0)), (eInt .i64 start20), (eInt .i64 m2), (eInt .i64 (IntKind.i64.wrap (n19 - start20))), (.fn (.func cmp4_f) cmp4_a cmp4_c)] (.tup []) (by kernel_rfl) (by kernel_rfl) (w_slices_rotateCmpFunc_api_Jump lo0p data0 start20 m2 (IntKind.i64.wrap (n19 - start20)) cmp4_f cmp4_a cmp4_c cmp4 cmp4_h _ hx12) hO (by kernel_rfl) (by kernel_rfl) ?_
            intro H hO hl13
            simp only [List.length_map] at hl13
            replace hN := hl13.trans hN
            refine R_en ?_
            refine E_has (l := [(0, (.msl 2 lo0p 0 (List.length x11))), (1, (eInt .i64 a1)), (3, (eInt .i64 b3)), (4, (.fn (.func cmp4_f) cmp4_a cmp4_c)), (18, (eInt .i64 mid18)), (20, (eInt .i64 start20)), (24, (eInt .i64 (IntKind.i64.wrap (n19 - start20))))]) ⟨[(0, (.msl 2 lo0p 0 (List.length data0))), (1, (eInt .i64 a1)), (3, (eInt .i64 b3)), (4, (.fn (.func cmp4_f) cmp4_a cmp4_c)), (18, (eInt .i64 mid18)), (20, (eInt .i64 start20)), (24, (eInt .i64 (IntKind.i64.wrap (n19 - start20))))], by kernel_rfl, rfl, ⟨SubV.eq (by simp [hl13]), SubV.refl _, SubV.refl _, SubV.refl _, SubV.refl _, SubV.refl _, SubV.refl _, trivial⟩⟩ ?_
            exact E_done (thenA_normal (⟨rfl, x11, IntKind.i64.wrap (n19 - start20), .eq (by kernel_rfl), hO, hN, h0⟩))
          refine C_sk ?_
          exact E_done (thenA_normal (⟨rfl, data0, IntKind.i64.wrap (n19 - start20), .eq (by kernel_rfl), hO, hN, h0⟩))
        refine C_bk 8 ?_
        refine C_hk [(0, (.msl 2 lo0p 0 (List.length data0))), (1, (eInt .i64 a1)), (2, (eInt .i64 m2)), (3, (eInt .i64 b3)), (4, (.fn (.func cmp4_f) cmp4_a cmp4_c)), (18, (eInt .i64 mid18)), (19, (eInt .i64 n19)), (20, (eInt .i64 start20)), (21, (eInt .i64 r21)), (22, (eInt .i64 (IntKind.i64.wrap (n19 - (1 : Int)))))] ?_
        refine C_cut (fun T H => ∃ data0 : List api_Jump, ∃ start20 : Int, ∃ r21 : Int, ∃ p22 : Int, Has T [(0, (.msl 2 lo0p 0 (List.length data0))), (1, (eInt .i64 a1)), (2, (eInt .i64 m2)), (3, (eInt .i64 b3)), (4, (.fn (.func cmp4_f) cmp4_a cmp4_c)), (18, (eInt .i64 mid18)), (19, (eInt .i64 n19)), (20, (eInt .i64 start20)), (21, (eInt .i64 r21)), (22, (eInt .i64 p22))] ∧ Owns ⟨H0, [lo0p], []⟩ H [(lo0p, 2, List.map e_api_Jump data0)] ∧ List.length data0 = N0 ∧ slices_symMergeCmpFunc_api_Jump_h7 cmp4 rec data0 a1 m2 b3 mid18 n19 start20 r21 p22 = some r) ?_ ⟨data0, start20, r21, IntKind.i64.wrap (n19 - (1 : Int)), .eq (by kernel_rfl), hO, hN, h0⟩
        clear hO hN h0
        rintro T H ⟨data0, start20, r21, p22, hT, hO, hN, h0⟩
        refine C_has hT ?_
        clear hT
        unfold slices_symMergeCmpFunc_api_Jump_h7 at h0
        obtain ⟨rr0, hl0, h0⟩ := bindE h0
        refine C_loopS (by kernel_rfl) (fun (s : List api_Jump × Int × Int) T H => Has T [(0, (.msl 2 lo0p 0 (List.length s.1))), (1, (eInt .i64 a1)), (2, (eInt .i64 m2)), (3, (eInt .i64 b3)), (4, (.fn (.func cmp4_f) cmp4_a cmp4_c)), (18, (eInt .i64 mid18)), (19, (eInt .i64 n19)), (20, (eInt .i64 s.2.1)), (21, (eInt .i64 s.2.2)), (22, (eInt .i64 p22))] ∧ Owns ⟨H0, [lo0p], []⟩ H [(lo0p, 2, List.map e_api_Jump s.1)] ∧ List.length s.1 = N0) hl0 ⟨.eq (by kernel_rfl), hO, hN⟩ ?_
        clear hO hN
        rintro k0 s out1 T H ⟨hT, hO, hN⟩ h1 ho0
        obtain ⟨data0, start20, r21⟩ := s
        replace h1 : slices_symMergeCmpFunc_api_Jump_l7 cmp4 rec a1 m2 b3 mid18 n19 p22 data0 start20 r21 = some out1 := h1
        dsimp only at hT
        refine C_has hT ?_
        clear hT
        unfold slices_symMergeCmpFunc_api_Jump_l7 at h1
        refine C_sq ?_
        refine S_al ttOk 3 [] [(151, (eBool (decide (start20 < r21))))] ?_
        refine C_cd h1 (fun h1 => ?_) (fun h1 => ?_)
        · refine C_sk ?_
          refine E_tn [(0, (.msl 2 lo0p 0 (List.length data0))), (1, (eInt .i64 a1)), (2, (eInt .i64 m2)), (3, (eInt .i64 b3)), (4, (.fn (.func cmp4_f) cmp4_a cmp4_c)), (18, (eInt .i64 mid18)), (19, (eInt .i64 n19)), (20, (eInt .i64 start20)), (21, (eInt .i64 r21)), (22, (eInt .i64 p22))] ?_
          refine C_bk 9 ?_
          refine C_sq ?_
          refine C_rg ttOk 7 ?_
          obtain ⟨c15, h1⟩ := asrtE h1
          refine R_as [0 ≤ (1 : Int)] ⟨c15, trivial⟩ ?_
          refine E_ad [] [(23, (eInt .i64 (IntKind.i64.wrap (Int.fdiv (IntKind.u64.wrap (IntKind.i64.wrap (start20 + r21))) (2 ^ (min (Int.toNat (1 : Int)) 64))))))] ?_
          refine C_sq ?_
          refine C_dg (plOf []) ttOk 14 ?_
          obtain ⟨c16, h1⟩ := asrtE h1
          refine D_ps 6 [0 ≤ (IntKind.i64.wrap (p22 - (IntKind.i64.wrap (Int.fdiv (IntKind.u64.wrap (IntKind.i64.wrap (start20 + r21))) (2 ^ (min (Int.toNat (1 : Int)) 64)))))) ∧ (IntKind.i64.wrap (p22 - (IntKind.i64.wrap (Int.fdiv (IntKind.u64.wrap (IntKind.i64.wrap (start20 + r21))) (2 ^ (min (Int.toNat (1 : Int)) 64)))))) < ((List.length data0 : Nat) : Int)] ⟨c16, trivial⟩ ?_
          refine D_lO 0 lo0p 2 (0 + Int.toNat (IntKind.i64.wrap (p22 - (IntKind.i64.wrap (Int.fdiv (IntKind.u64.wrap (IntKind.i64.wrap (start20 + r21))) (2 ^ (min (Int.toNat (1 : Int)) 64))))))) (e_api_Jump (List.getD data0 (Int.toNat (IntKind.i64.wrap (p22 - (IntKind.i64.wrap (Int.fdiv (IntKind.u64.wrap (IntKind.i64.wrap (start20 + r21))) (2 ^ (min (Int.toNat (1 : Int)) 64))))))) default)) (e_api_Jump (List.getD data0 (Int.toNat (IntKind.i64.wrap (p22 - (IntKind.i64.wrap (Int.fdiv (IntKind.u64.wrap (IntKind.i64.wrap (start20 + r21))) (2 ^ (min (Int.toNat (1 : Int)) 64))))))) default)) (List.map e_api_Jump data0) hO (ownGet c16) ?_
          obtain ⟨c17, h1⟩ := asrtE h1
          refine D_ps 10 [0 ≤ (IntKind.i64.wrap (Int.fdiv (IntKind.u64.wrap (IntKind.i64.wrap (start20 + r21))) (2 ^ (min (Int.toNat (1 : Int)) 64)))) ∧ (IntKind.i64.wrap (Int.fdiv (IntKind.u64.wrap (IntKind.i64.wrap (start20 + r21))) (2 ^ (min (Int.toNat (1 : Int)) 64)))) < ((List.length data0 : Nat) : Int)] ⟨c17, trivial⟩ ?_
          refine D_lO 0 lo0p 2 (0 + Int.toNat (IntKind.i64.wrap (Int.fdiv (IntKind.u64.wrap (IntKind.i64.wrap (start20 + r21))) (2 ^ (min (Int.toNat (1 : Int)) 64))))) (e_api_Jump (List.getD data0 (Int.toNat (IntKind.i64.wrap (Int.fdiv (IntKind.u64.wrap (IntKind.i64.wrap (start20 + r21))) (2 ^ (min (Int.toNat (1 : Int)) 64))))) default)) (e_api_Jump (List.getD data0 (Int.toNat (IntKind.i64.wrap (Int.fdiv (IntKind.u64.wrap (IntKind.i64.wrap (start20 + r21))) (2 ^ (min (Int.toNat (1 : Int)) 64))))) default)) (List.map e_api_Jump data0) hO (ownGet c17) ?_
          obtain ⟨x18, hx19, h1⟩ := bindE h1
          refine D_callO cmp4_f (cmp4_a ++ [(e_api_Jump (List.getD data0 (Int.toNat (IntKind.i64.wrap (p22 - (IntKind.i64.wrap (Int.fdiv (IntKind.u64.wrap (IntKind.i64.wrap (start20 + r21))) (2 ^ (min (Int.toNat (1 : Int)) 64))))))) default)), (e_api_Jump (List.getD data0 (Int.toNat (IntKind.i64.wrap (Int.fdiv (IntKind.u64.wrap (IntKind.i64.wrap (start20 + r21))) (2 ^ (min (Int.toNat (1 : Int)) 64))))) default))] ++ cmp4_c) (eInt .i64 x18) (by kernel_rfl) (by kernel_rfl) (cmp4_h (List.getD data0 (Int.toNat (IntKind.i64.wrap (p22 - (IntKind.i64.wrap (Int.fdiv (IntKind.u64.wrap (IntKind.i64.wrap (start20 + r21))) (2 ^ (min (Int.toNat (1 : Int)) 64))))))) default) (List.getD data0 (Int.toNat (IntKind.i64.wrap (Int.fdiv (IntKind.u64.wrap (IntKind.i64.wrap (start20 + r21))) (2 ^ (min (Int.toNat (1 : Int)) 64))))) default) _ hx19) hO ?_
          intro H hO
          refine D_al ?_
          refine E_ad [] [(171, (eBool (!(decide (x18 < (0 : Int))))))] ?_
          refine C_cd h1 (fun h1 => ?_) (fun h1 => ?_)
          · refine C_rg ttOk 3 ?_
            refine R_al ?_
            exact E_done (blockA_normal (thenA_normal (⟨rfl, (data0, IntKind.i64.wrap ((IntKind.i64.wrap (Int.fdiv (IntKind.u64.wrap (IntKind.i64.wrap (start20 + r21))) (2 ^ (min (Int.toNat (1 : Int)) 64)))) + (1 : Int)), r21), (Option.some.inj h1).symm, .eq (by kernel_rfl), hO, hN⟩)))
          refine C_rg ttOk 2 ?_
          refine R_al ?_
          exact E_done (blockA_normal (thenA_normal (⟨rfl, (data0, start20, IntKind.i64.wrap (Int.fdiv (IntKind.u64.wrap (IntKind.i64.wrap (start20 + r21))) (2 ^ (min (Int.toNat (1 : Int)) 64)))), (Option.some.inj h1).symm, .eq (by kernel_rfl), hO, hN⟩)))
        refine C_ex 8 ?_
        obtain rfl := Option.some.inj h1
        obtain rfl : _ = rr0 := ho0
        replace h0 : slices_symMergeCmpFunc_api_Jump_j4 cmp4 rec data0 a1 m2 b3 mid18 n19 start20 = some r := h0
        exact E_done (thenA_exit (thenA_exit (blockA_hit (thenA_normal (⟨rfl, data0, start20, .eq (by kernel_rfl), hO, hN, h0⟩)))))
      refine S_al ttOk 3 [] [(140, (eBool (decide ((IntKind.i64.wrap (Int.fdiv (IntKind.u64.wrap (IntKind.i64.wrap (a1 + b3))) (2 ^ (min (Int.toNat (1 : Int)) 64)))) < m2))))] ?_
      refine C_cd h0 (fun h0 => ?_) (fun h0 => ?_)
      · refine S_tn ttOk 4 [(0, (.msl 2 lo0p 0 (List.length data0))), (1, (eInt .i64 a1)), (2, (eInt .i64 m2)), (3, (eInt .i64 b3)), (4, (.fn (.func cmp4_f) cmp4_a cmp4_c)), (18, (eInt .i64 (IntKind.i64.wrap (Int.fdiv (IntKind.u64.wrap (IntKind.i64.wrap (a1 + b3))) (2 ^ (min (Int.toNat (1 : Int)) 64)))))), (19, (eInt .i64 (IntKind.i64.wrap ((IntKind.i64.wrap (Int.fdiv (IntKind.u64.wrap (IntKind.i64.wrap (a1 + b3))) (2 ^ (min (Int.toNat (1 : Int)) 64)))) + m2)))), (20, (eInt .i64 (IntKind.i64.wrap ((IntKind.i64.wrap ((IntKind.i64.wrap (Int.fdiv (IntKind.u64.wrap (IntKind.i64.wrap (a1 + b3))) (2 ^ (min (Int.toNat (1 : Int)) 64)))) + m2)) - b3))))] ?_
        refine C_rg ttOk 2 ?_
        refine R_al ?_
        exact E_done (thenA_normal (⟨rfl, data0, IntKind.i64.wrap (Int.fdiv (IntKind.u64.wrap (IntKind.i64.wrap (a1 + b3))) (2 ^ (min (Int.toNat (1 : Int)) 64))), IntKind.i64.wrap ((IntKind.i64.wrap (Int.fdiv (IntKind.u64.wrap (IntKind.i64.wrap (a1 + b3))) (2 ^ (min (Int.toNat (1 : Int)) 64)))) + m2), IntKind.i64.wrap ((IntKind.i64.wrap ((IntKind.i64.wrap (Int.fdiv (IntKind.u64.wrap (IntKind.i64.wrap (a1 + b3))) (2 ^ (min (Int.toNat (1 : Int)) 64)))) + m2)) - b3), IntKind.i64.wrap (Int.fdiv (IntKind.u64.wrap (IntKind.i64.wrap (a1 + b3))) (2 ^ (min (Int.toNat (1 : Int)) 64))), .eq (by kernel_rfl), hO, hN, h0⟩))
      refine S_tn ttOk 2 [(0, (.msl 2 lo0p 0 (List.length data0))), (1, (eInt .i64 a1)), (2, (eInt .i64 m2)), (3, (eInt .i64 b3)), (4, (.fn (.func cmp4_f) cmp4_a cmp4_c)), (18, (eInt .i64 (IntKind.i64.wrap (Int.fdiv (IntKind.u64.wrap (IntKind.i64.wrap (a1 + b3))) (2 ^ (min (Int.toNat (1 : Int)) 64)))))), (19, (eInt .i64 (IntKind.i64.wrap ((IntKind.i64.wrap (Int.fdiv (IntKind.u64.wrap (IntKind.i64.wrap (a1 + b3))) (2 ^ (min (Int.toNat (1 : Int)) 64)))) + m2)))), (20, (eInt .i64 a1))] ?_
      refine C_rg ttOk 2 ?_
      refine R_al ?_
      exact E_done (thenA_normal (⟨rfl, data0, IntKind.i64.wrap (Int.fdiv (IntKind.u64.wrap (IntKind.i64.wrap (a1 + b3))) (2 ^ (min (Int.toNat (1 : Int)) 64))), IntKind.i64.wrap ((IntKind.i64.wrap (Int.fdiv (IntKind.u64.wrap (IntKind.i64.wrap (a1 + b3))) (2 ^ (min (Int.toNat (1 : Int)) 64)))) + m2), a1, m2, .eq (by kernel_rfl), hO, hN, h0⟩))
    refine S_al ttOk 4 [] [(80, (eBool (decide ((IntKind.i64.wrap (b3 - m2)) = (1 : Int)))))] ?_
    refine C_cd h0 (fun h0 => ?_) (fun h0 => ?_)
    · refine S_al ttOk 2 [1, 3, 80] [(14, (eInt .i64 a1))] ?_
      refine S_al ttOk 2 [] [(15, (eInt .i64 m2))] ?_
      refine C_sj (fun T H => ∃ data0 : List api_Jump, ∃ i14 : Int, Has T [(0, (.msl 2 lo0p 0 (List.length data0))), (2, (eInt .i64 m2)), (14, (eInt .i64 i14))] ∧ Owns ⟨H0, [lo0p], []⟩ H [(lo0p, 2, List.map e_api_Jump data0)] ∧ List.length data0 = N0 ∧ slices_symMergeCmpFunc_api_Jump_j8 cmp4 rec data0 m2 i14 = some r) ?_ ?_
      · clear hO hN h0
        rintro T H ⟨data0, i14, hT, hO, hN, h0⟩
        refine C_has hT ?_
        clear hT
        unfold slices_symMergeCmpFunc_api_Jump_j8 at h0
        refine C_sj (fun T H => ∃ data0 : List api_Jump, Has T [(0, (.msl 2 lo0p 0 (List.length data0)))] ∧ Owns ⟨H0, [lo0p], []⟩ H [(lo0p, 2, List.map e_api_Jump data0)] ∧ List.length data0 = N0 ∧ slices_symMergeCmpFunc_api_Jump_j9 cmp4 rec data0 = some r) ?_ ?_
        · clear hO hN h0
          rintro T H ⟨data0, hT, hO, hN, h0⟩
          refine C_has hT ?_
          clear hT
          unfold slices_symMergeCmpFunc_api_Jump_j9 at h0
          refine C_rt ?_
          obtain rfl := Option.some.inj h0
          exact E_done (thenA_ret (Q_ret (x := (.tup [])) (by kernel_rfl) (SubV.refl _) ⟨rfl, hO.ext, hO.at 0 (by kernel_rfl), by simp only [List.length_map]; exact hN.trans hN0⟩))
        refine S_al ttOk 2 [2] [(17, (eInt .i64 m2))] ?_
        refine C_bk 6 ?_
        refine C_hk [(0, (.msl 2 lo0p 0 (List.length data0))), (14, (eInt .i64 i14)), (17, (eInt .i64 m2))] ?_
        refine C_cut (fun T H => ∃ data0 : List api_Jump, ∃ k17 : Int, Has T [(0, (.msl 2 lo0p 0 (List.length data0))), (14, (eInt .i64 i14)), (17, (eInt .i64 k17))] ∧ Owns ⟨H0, [lo0p], []⟩ H [(lo0p, 2, List.map e_api_Jump data0)] ∧ List.length data0 = N0 ∧ slices_symMergeCmpFunc_api_Jump_h10 cmp4 rec data0 i14 k17 = some r) ?_ ⟨data0, m2, .eq (by kernel_rfl), hO, hN, h0⟩
        clear hO hN h0
        rintro T H ⟨data0, k17, hT, hO, hN, h0⟩
        refine C_has hT ?_
        clear hT
        unfold slices_symMergeCmpFunc_api_Jump_h10 at h0
        obtain ⟨rr0, hl0, h0⟩ := bindE h0
        refine C_loopS (by kernel_rfl) (fun (s : List api_Jump × Int) T H => Has T [(0, (.msl 2 lo0p 0 (List.length s.1))), (14, (eInt .i64 i14)), (17, (eInt .i64 s.2))] ∧ Owns ⟨H0, [lo0p], []⟩ H [(lo0p, 2, List.map e_api_Jump s.1)] ∧ List.length s.1 = N0) hl0 ⟨.eq (by kernel_rfl), hO, hN⟩ ?_
        clear hO hN
        rintro k0 s out1 T H ⟨hT, hO, hN⟩ h1 ho0
        obtain ⟨data0, k17⟩ := s
        replace h1 : slices_symMergeCmpFunc_api_Jump_l10 cmp4 rec i14 data0 k17 = some out1 := h1
        dsimp only at hT
        refine C_has hT ?_
        clear hT
        unfold slices_symMergeCmpFunc_api_Jump_l10 at h1
        refine C_sq ?_
        refine S_al ttOk 3 [] [(110, (eBool (decide (i14 < k17))))] ?_
        refine C_cd h1 (fun h1 => ?_) (fun h1 => ?_)
        · refine C_sk ?_
          refine E_tn [(0, (.msl 2 lo0p 0 (List.length data0))), (14, (eInt .i64 i14)), (17, (eInt .i64 k17))] ?_
          refine C_sq ?_
          refine C_bk 7 ?_
          refine C_dg (plOf []) ttOk 18 ?_
          obtain ⟨c25, h1⟩ := asrtE h1
          refine D_ps 9 [0 ≤ (IntKind.i64.wrap (k17 - (1 : Int))) ∧ (IntKind.i64.wrap (k17 - (1 : Int))) < ((List.length data0 : Nat) : Int)] ⟨c25, trivial⟩ ?_
          refine D_lO 0 lo0p 2 (0 + Int.toNat (IntKind.i64.wrap (k17 - (1 : Int)))) (e_api_Jump (List.getD data0 (Int.toNat (IntKind.i64.wrap (k17 - (1 : Int)))) default)) (e_api_Jump (List.getD data0 (Int.toNat (IntKind.i64.wrap (k17 - (1 : Int)))) default)) (List.map e_api_Jump data0) hO (ownGet c25) ?_
          obtain ⟨c26, h1⟩ := asrtE h1
          refine D_ps 13 [0 ≤ k17 ∧ k17 < ((List.length data0 : Nat) : Int)] ⟨c26, trivial⟩ ?_
          refine D_lO 0 lo0p 2 (0 + Int.toNat k17) (e_api_Jump (List.getD data0 (Int.toNat k17) default)) (e_api_Jump (List.getD data0 (Int.toNat k17) default)) (List.map e_api_Jump data0) hO (ownGet c26) ?_
          obtain ⟨c27, h1⟩ := asrtE h1
          refine D_ps 15 [0 ≤ k17 ∧ k17 < ((List.length data0 : Nat) : Int)] ⟨c27, trivial⟩ ?_
          refine D_sO 0 lo0p 2 (0 + Int.toNat k17) (e_api_Jump (List.getD data0 (Int.toNat k17) default)) (e_api_Jump (List.getD data0 (Int.toNat (IntKind.i64.wrap (k17 - (1 : Int)))) default)) (List.map e_api_Jump data0) [(lo0p, 2, List.map e_api_Jump (List.set data0 (Int.toNat k17) (List.getD data0 (Int.toNat (IntKind.i64.wrap (k17 - (1 : Int)))) default)))] hO (ownGet c27) (by simp only [List.set, ownSet]) ?_
          intro H hO
          replace hN : List.length (List.set data0 (Int.toNat k17) (List.getD data0 (Int.toNat (IntKind.i64.wrap (k17 - (1 : Int)))) default)) = N0 := by simpa using hN
          obtain ⟨c28, h1⟩ := asrtE h1
          refine D_ps 17 [0 ≤ (IntKind.i64.wrap (k17 - (1 : Int))) ∧ (IntKind.i64.wrap (k17 - (1 : Int))) < ((List.length data0 : Nat) : Int)] ⟨c28, trivial⟩ ?_
          refine D_sO 0 lo0p 2 (0 + Int.toNat (IntKind.i64.wrap (k17 - (1 : Int)))) (e_api_Jump (List.getD (List.set data0 (Int.toNat k17) (List.getD data0 (Int.toNat (IntKind.i64.wrap (k17 - (1 : Int)))) default)) (Int.toNat (IntKind.i64.wrap (k17 - (1 : Int)))) default)) (e_api_Jump (List.getD data0 (Int.toNat k17) default)) (List.map e_api_Jump (List.set data0 (Int.toNat k17) (List.getD data0 (Int.toNat (IntKind.i64.wrap (k17 - (1 : Int)))) default))) [(lo0p, 2, List.map e_api_Jump (List.set (List.set data0 (Int.toNat k17) (List.getD data0 (Int.toNat (IntKind.i64.wrap (k17 - (1 : Int)))) default)) (Int.toNat (IntKind.i64.wrap (k17 - (1 : Int)))) (List.getD data0 (Int.toNat k17) default)))] hO (ownGetN c28 (by simp [])) (by simp only [List.set, ownSet]) ?_
          intro H hO
          replace hN : List.length (List.set (List.set data0 (Int.toNat k17) (List.getD data0 (Int.toNat (IntKind.i64.wrap (k17 - (1 : Int)))) default)) (Int.toNat (IntKind.i64.wrap (k17 - (1 : Int)))) (List.getD data0 (Int.toNat k17) default)) = N0 := by simpa using hN
          refine D_end (by kernel_rfl) ?_
          refine E_has (l := [(0, (.msl 2 lo0p 0 (List.length (List.set (List.set data0 (Int.toNat k17) (List.getD data0 (Int.toNat (IntKind.i64.wrap (k17 - (1 : Int)))) default)) (Int.toNat (IntKind.i64.wrap (k17 - (1 : Int)))) (List.getD data0 (Int.toNat k17) default))))), (14, (eInt .i64 i14)), (17, (eInt .i64 k17))]) ⟨[(0, (.msl 2 lo0p 0 (List.length data0))), (14, (eInt .i64 i14)), (17, (eInt .i64 k17))], by kernel_rfl, rfl, ⟨SubV.eq (by simp []), SubV.refl _, SubV.refl _, trivial⟩⟩ ?_
          refine E_done (blockA_normal (thenA_normal (?_)))
          refine C_rg ttOk 3 ?_
          refine R_al ?_
          exact E_done (thenA_normal (⟨rfl, (List.set (List.set data0 (Int.toNat k17) (List.getD data0 (Int.toNat (IntKind.i64.wrap (k17 - (1 : Int)))) default)) (Int.toNat (IntKind.i64.wrap (k17 - (1 : Int)))) (List.getD data0 (Int.toNat k17) default), IntKind.i64.wrap (k17 - (1 : Int))), (Option.some.inj h1).symm, .eq (by kernel_rfl), hO, hN⟩))
        refine C_ex 6 ?_
        obtain rfl := Option.some.inj h1
        obtain rfl : _ = rr0 := ho0
        replace h0 : slices_symMergeCmpFunc_api_Jump_j9 cmp4 rec data0 = some r := h0
        exact E_done (thenA_exit (thenA_exit (blockA_hit (thenA_normal (⟨rfl, data0, .eq (by kernel_rfl), hO, hN, h0⟩)))))
      refine C_bk 4 ?_
      refine C_hk [(0, (.msl 2 lo0p 0 (List.length data0))), (2, (eInt .i64 m2)), (4, (.fn (.func cmp4_f) cmp4_a cmp4_c)), (14, (eInt .i64 a1)), (15, (eInt .i64 m2))] ?_
      refine C_cut (fun T H => ∃ data0 : List api_Jump, ∃ i14 : Int, ∃ j15 : Int, Has T [(0, (.msl 2 lo0p 0 (List.length data0))), (2, (eInt .i64 m2)), (4, (.fn (.func cmp4_f) cmp4_a cmp4_c)), (14, (eInt .i64 i14)), (15, (eInt .i64 j15))] ∧ Owns ⟨H0, [lo0p], []⟩ H [(lo0p, 2, List.map e_api_Jump data0)] ∧ List.length data0 = N0 ∧ slices_symMergeCmpFunc_api_Jump_h11 cmp4 rec data0 m2 i14 j15 = some r) ?_ ⟨data0, a1, m2, .eq (by kernel_rfl), hO, hN, h0⟩
      clear hO hN h0
      rintro T H ⟨data0, i14, j15, hT, hO, hN, h0⟩
      refine C_has hT ?_
      clear hT
      unfold slices_symMergeCmpFunc_api_Jump_h11 at h0
      obtain ⟨rr0, hl0, h0⟩ := bindE h0
      refine C_loopS (by kernel_rfl) (fun (s : List api_Jump × Int × Int) T H => Has T [(0, (.msl 2 lo0p 0 (List.length s.1))), (2, (eInt .i64 m2)), (4, (.fn (.func cmp4_f) cmp4_a cmp4_c)), (14, (eInt .i64 s.2.1)), (15, (eInt .i64 s.2.2))] ∧ Owns ⟨H0, [lo0p], []⟩ H [(lo0p, 2, List.map e_api_Jump s.1)] ∧ List.length s.1 = N0) hl0 ⟨.eq (by kernel_rfl), hO, hN⟩ ?_
      clear hO hN
      rintro k0 s out1 T H ⟨hT, hO, hN⟩ h1 ho0
      obtain ⟨data0, i14, j15⟩ := s
      replace h1 : slices_symMergeCmpFunc_api_Jump_l11 cmp4 rec m2 data0 i14 j15 = some out1 := h1
      dsimp only at hT
      refine C_has hT ?_
      clear hT
      unfold slices_symMergeCmpFunc_api_Jump_l11 at h1
      refine C_sq ?_
      refine S_al ttOk 3 [] [(85, (eBool (decide (i14 < j15))))] ?_
      refine C_cd h1 (fun h1 => ?_) (fun h1 => ?_)
      · refine C_sk ?_
        refine E_tn [(0, (.msl 2 lo0p 0 (List.length data0))), (2, (eInt .i64 m2)), (4, (.fn (.func cmp4_f) cmp4_a cmp4_c)), (14, (eInt .i64 i14)), (15, (eInt .i64 j15))] ?_
        refine C_bk 5 ?_
        refine C_sq ?_
        refine C_rg ttOk 7 ?_
        obtain ⟨c30, h1⟩ := asrtE h1
        refine R_as [0 ≤ (1 : Int)] ⟨c30, trivial⟩ ?_
        refine E_ad [] [(16, (eInt .i64 (IntKind.i64.wrap (Int.fdiv (IntKind.u64.wrap (IntKind.i64.wrap (i14 + j15))) (2 ^ (min (Int.toNat (1 : Int)) 64))))))] ?_
        refine C_sq ?_
        refine C_dg (plOf []) ttOk 12 ?_
        obtain ⟨c31, h1⟩ := asrtE h1
        refine D_ps 4 [0 ≤ m2 ∧ m2 < ((List.length data0 : Nat) : Int)] ⟨c31, trivial⟩ ?_
        refine D_lO 0 lo0p 2 (0 + Int.toNat m2) (e_api_Jump (List.getD data0 (Int.toNat m2) default)) (e_api_Jump (List.getD data0 (Int.toNat m2) default)) (List.map e_api_Jump data0) hO (ownGet c31) ?_
        obtain ⟨c32, h1⟩ := asrtE h1
        refine D_ps 8 [0 ≤ (IntKind.i64.wrap (Int.fdiv (IntKind.u64.wrap (IntKind.i64.wrap (i14 + j15))) (2 ^ (min (Int.toNat (1 : Int)) 64)))) ∧ (IntKind.i64.wrap (Int.fdiv (IntKind.u64.wrap (IntKind.i64.wrap (i14 + j15))) (2 ^ (min (Int.toNat (1 : Int)) 64)))) < ((List.length data0 : Nat) : Int)] ⟨c32, trivial⟩ ?_
        refine D_lO 0 lo0p 2 (0 + Int.toNat (IntKind.i64.wrap (Int.fdiv (IntKind.u64.wrap (IntKind.i64.wrap (i14 + j15))) (2 ^ (min (Int.toNat (1 : Int)) 64))))) (e_api_Jump (List.getD data0 (Int.toNat (IntKind.i64.wrap (Int.fdiv (IntKind.u64.wrap (IntKind.i64.wrap (i14 + j15))) (2 ^ (min (Int.toNat (1 : Int)) 64))))) default)) (e_api_Jump (List.getD data0 (Int.toNat (IntKind.i64.wrap (Int.fdiv (IntKind.u64.wrap (IntKind.i64.wrap (i14 + j15))) (2 ^ (min (Int.toNat (1 : Int)) 64))))) default)) (List.map e_api_Jump data0) hO (ownGet c32) ?_
        obtain ⟨x33, hx34, h1⟩ := bindE h1
        refine D_callO cmp4_f (cmp4_a ++ [(e_api_Jump (List.getD data0 (Int.toNat m2) default)), (e_api_Jump (List.getD data0 (Int.toNat (IntKind.i64.wrap (Int.fdiv (IntKind.u64.wrap (IntKind.i64.wrap (i14 + j15))) (2 ^ (min (Int.toNat (1 : Int)) 64))))) default))] ++ cmp4_c) (eInt .i64 x33) (by kernel_rfl) (by kernel_rfl) (cmp4_h (List.getD data0 (Int.toNat m2) default) (List.getD data0 (Int.toNat (IntKind.i64.wrap (Int.fdiv (IntKind.u64.wrap (IntKind.i64.wrap (i14 + j15))) (2 ^ (min (Int.toNat (1 : Int)) 64))))) default) _ hx34) hO ?_
        intro H hO
        refine D_al ?_
        refine E_ad [] [(103, (eBool (!(decide (x33 < (0 : Int))))))] ?_
        refine C_cd h1 (fun h1 => ?_) (fun h1 => ?_)
        · refine C_rg ttOk 3 ?_
          refine R_al ?_
          exact E_done (blockA_normal (thenA_normal (⟨rfl, (data0, IntKind.i64.wrap ((IntKind.i64.wrap (Int.fdiv (IntKind.u64.wrap (IntKind.i64.wrap (i14 + j15))) (2 ^ (min (Int.toNat (1 : Int)) 64)))) + (1 : Int)), j15), (Option.some.inj h1).symm, .eq (by kernel_rfl), hO, hN⟩)))
        refine C_rg ttOk 2 ?_
        refine R_al ?_
        exact E_done (blockA_normal (thenA_normal (⟨rfl, (data0, i14, IntKind.i64.wrap (Int.fdiv (IntKind.u64.wrap (IntKind.i64.wrap (i14 + j15))) (2 ^ (min (Int.toNat (1 : Int)) 64)))), (Option.some.inj h1).symm, .eq (by kernel_rfl), hO, hN⟩)))
      refine C_ex 4 ?_
      obtain rfl := Option.some.inj h1
      obtain rfl : _ = rr0 := ho0
      replace h0 : slices_symMergeCmpFunc_api_Jump_j8 cmp4 rec data0 m2 i14 = some r := h0
      exact E_done (thenA_exit (thenA_exit (blockA_hit (thenA_normal (⟨rfl, data0, i14, .eq (by kernel_rfl), hO, hN, h0⟩)))))
    refine C_sk ?_
    exact E_done (thenA_normal (⟨rfl, data0, .eq (by kernel_rfl), hO, hN, h0⟩))
  refine S_al ttOk 4 [] [(28, (eBool (decide ((IntKind.i64.wrap (m2 - a1)) = (1 : Int)))))] ?_
  refine C_cd h0 (fun h0 => ?_) (fun h0 => ?_)
  · refine S_al ttOk 2 [2, 28] [(10, (eInt .i64 m2))] ?_
    refine S_al ttOk 2 [3] [(11, (eInt .i64 b3))] ?_
    refine C_sj (fun T H => ∃ data0 : List api_Jump, ∃ i10 : Int, Has T [(0, (.msl 2 lo0p 0 (List.length data0))), (1, (eInt .i64 a1)), (10, (eInt .i64 i10))] ∧ Owns ⟨H0, [lo0p], []⟩ H [(lo0p, 2, List.map e_api_Jump data0)] ∧ List.length data0 = N0 ∧ slices_symMergeCmpFunc_api_Jump_j12 cmp4 rec data0 a1 i10 = some r) ?_ ?_
    · clear hO hN h0
      rintro T H ⟨data0, i10, hT, hO, hN, h0⟩
      refine C_has hT ?_
      clear hT
      unfold slices_symMergeCmpFunc_api_Jump_j12 at h0
      refine C_sj (fun T H => ∃ data0 : List api_Jump, Has T [(0, (.msl 2 lo0p 0 (List.length data0)))] ∧ Owns ⟨H0, [lo0p], []⟩ H [(lo0p, 2, List.map e_api_Jump data0)] ∧ List.length data0 = N0 ∧ slices_symMergeCmpFunc_api_Jump_j13 cmp4 rec data0 = some r) ?_ ?_
      · clear hO hN h0
        rintro T H ⟨data0, hT, hO, hN, h0⟩
        refine C_has hT ?_
        clear hT
        unfold slices_symMergeCmpFunc_api_Jump_j13 at h0
        refine C_rt ?_
        obtain rfl := Option.some.inj h0
        exact E_done (thenA_ret (Q_ret (x := (.tup [])) (by kernel_rfl) (SubV.refl _) ⟨rfl, hO.ext, hO.at 0 (by kernel_rfl), by simp only [List.length_map]; exact hN.trans hN0⟩))
      refine S_al ttOk 2 [1] [(13, (eInt .i64 a1))] ?_
      refine C_bk 2 ?_
      refine C_hk [(0, (.msl 2 lo0p 0 (List.length data0))), (10, (eInt .i64 i10)), (13, (eInt .i64 a1))] ?_
      refine C_cut (fun T H => ∃ data0 : List api_Jump, ∃ k13 : Int, Has T [(0, (.msl 2 lo0p 0 (List.length data0))), (10, (eInt .i64 i10)), (13, (eInt .i64 k13))] ∧ Owns ⟨H0, [lo0p], []⟩ H [(lo0p, 2, List.map e_api_Jump data0)] ∧ List.length data0 = N0 ∧ slices_symMergeCmpFunc_api_Jump_h14 cmp4 rec data0 i10 k13 = some r) ?_ ⟨data0, a1, .eq (by kernel_rfl), hO, hN, h0⟩
      clear hO hN h0
      rintro T H ⟨data0, k13, hT, hO, hN, h0⟩
      refine C_has hT ?_
      clear hT
      unfold slices_symMergeCmpFunc_api_Jump_h14 at h0
      obtain ⟨rr0, hl0, h0⟩ := bindE h0
      refine C_loopS (by kernel_rfl) (fun (s : List api_Jump × Int) T H => Has T [(0, (.msl 2 lo0p 0 (List.length s.1))), (10, (eInt .i64 i10)), (13, (eInt .i64 s.2))] ∧ Owns ⟨H0, [lo0p], []⟩ H [(lo0p, 2, List.map e_api_Jump s.1)] ∧ List.length s.1 = N0) hl0 ⟨.eq (by kernel_rfl), hO, hN⟩ ?_
      clear hO hN
      rintro k0 s out1 T H ⟨hT, hO, hN⟩ h1 ho0
      obtain ⟨data0, k13⟩ := s
      replace h1 : slices_symMergeCmpFunc_api_Jump_l14 cmp4 rec i10 data0 k13 = some out1 := h1
      dsimp only at hT
      refine C_has hT ?_
      clear hT
      unfold slices_symMergeCmpFunc_api_Jump_l14 at h1
      refine C_sq ?_
      refine S_al ttOk 4 [] [(58, (eBool (decide (k13 < (IntKind.i64.wrap (i10 - (1 : Int)))))))] ?_
      refine C_cd h1 (fun h1 => ?_) (fun h1 => ?_)
      · refine C_sk ?_
        refine E_tn [(0, (.msl 2 lo0p 0 (List.length data0))), (10, (eInt .i64 i10)), (13, (eInt .i64 k13))] ?_
        refine C_sq ?_
        refine C_bk 3 ?_
        refine C_dg (plOf []) ttOk 18 ?_
        obtain ⟨c39, h1⟩ := asrtE h1
        refine D_ps 9 [0 ≤ (IntKind.i64.wrap (k13 + (1 : Int))) ∧ (IntKind.i64.wrap (k13 + (1 : Int))) < ((List.length data0 : Nat) : Int)] ⟨c39, trivial⟩ ?_
        refine D_lO 0 lo0p 2 (0 + Int.toNat (IntKind.i64.wrap (k13 + (1 : Int)))) (e_api_Jump (List.getD data0 (Int.toNat (IntKind.i64.wrap (k13 + (1 : Int)))) default)) (e_api_Jump (List.getD data0 (Int.toNat (IntKind.i64.wrap (k13 + (1 : Int)))) default)) (List.map e_api_Jump data0) hO (ownGet c39) ?_
        obtain ⟨c40, h1⟩ := asrtE h1
        refine D_ps 13 [0 ≤ k13 ∧ k13 < ((List.length data0 : Nat) : Int)] ⟨c40, trivial⟩ ?_
        refine D_lO 0 lo0p 2 (0 + Int.toNat k13) (e_api_Jump (List.getD data0 (Int.toNat k13) default)) (e_api_Jump (List.getD data0 (Int.toNat k13) default)) (List.map e_api_Jump data0) hO (ownGet c40) ?_
        obtain ⟨c41, h1⟩ := asrtE h1
        refine D_ps 15 [0 ≤ k13 ∧ k13 < ((List.length data0 : Nat) : Int)] ⟨c41, trivial⟩ ?_
        refine D_sO 0 lo0p 2 (0 + Int.toNat k13) (e_api_Jump (List.getD data0 (Int.toNat k13) default)) (e_api_Jump (List.getD data0 (Int.toNat (IntKind.i64.wrap (k13 + (1 : Int)))) default)) (List.map e_api_Jump data0) [(lo0p, 2, List.map e_api_Jump (List.set data0 (Int.toNat k13) (List.getD data0 (Int.toNat (IntKind.i64.wrap (k13 + (1 : Int)))) default)))] hO (ownGet c41) (by simp only [List.set, ownSet]) ?_
        intro H hO
        replace hN : List.length (List.set data0 (Int.toNat k13) (List.getD data0 (Int.toNat (IntKind.i64.wrap (k13 + (1 : Int)))) default)) = N0 := by simpa using hN
        obtain ⟨c42, h1⟩ := asrtE h1
        refine D_ps 17 [0 ≤ (IntKind.i64.wrap (k13 + (1 : Int))) ∧ (IntKind.i64.wrap (k13 + (1 : Int))) < ((List.length data0 : Nat) : Int)] ⟨c42, trivial⟩ ?_
        refine D_sO 0 lo0p 2 (0 + Int.toNat (IntKind.i64.wrap (k13 + (1 : Int)))) (e_api_Jump (List.getD (List.set data0 (Int.toNat k13) (List.getD data0 (Int.toNat (IntKind.i64.wrap (k13 + (1 : Int)))) default)) (Int.toNat (IntKind.i64.wrap (k13 + (1 : Int)))) default)) (e_api_Jump (List.getD data0 (Int.toNat k13) default)) (List.map e_api_Jump (List.set data0 (Int.toNat k13) (List.getD data0 (Int.toNat (IntKind.i64.wrap (k13 + (1 : Int)))) default))) [(lo0p, 2, List.map e_api_Jump (List.set (List.set data0 (Int.toNat k13) (List.getD data0 (Int.toNat (IntKind.i64.wrap (k13 + (1 : Int)))) default)) (Int.toNat (IntKind.i64.wrap (k13 + (1 : Int)))) (List.getD data0 (Int.toNat k13) default)))] hO (ownGetN c42 (by simp [])) (by simp only [List.set, ownSet]) ?_
        intro H hO
        replace hN : List.length (List.set (List.set data0 (Int.toNat k13) (List.getD data0 (Int.toNat (IntKind.i64.wrap (k13 + (1 : Int)))) default)) (Int.toNat (IntKind.i64.wrap (k13 + (1 : Int)))) (List.getD data0 (Int.toNat k13) default)) = N0 := by simpa using hN
        refine D_end (by kernel_rfl) ?_
        refine E_has (l := [(0, (.msl 2 lo0p 0 (List.length (List.set (List.set data0 (Int.toNat k13) (List.getD data0 (Int.toNat (IntKind.i64.wrap (k13 + (1 : Int)))) default)) (Int.toNat (IntKind.i64.wrap (k13 + (1 : Int)))) (List.getD data0 (Int.toNat k13) default))))), (10, (eInt .i64 i10)), (13, (eInt .i64 k13))]) ⟨[(0, (.msl 2 lo0p 0 (List.length data0))), (10, (eInt .i64 i10)), (13, (eInt .i64 k13))], by kernel_rfl, rfl, ⟨SubV.eq (by simp []), SubV.refl _, SubV.refl _, trivial⟩⟩ ?_
        refine E_done (blockA_normal (thenA_normal (?_)))
        refine C_rg ttOk 3 ?_
        refine R_al ?_
        exact E_done (thenA_normal (⟨rfl, (List.set (List.set data0 (Int.toNat k13) (List.getD data0 (Int.toNat (IntKind.i64.wrap (k13 + (1 : Int)))) default)) (Int.toNat (IntKind.i64.wrap (k13 + (1 : Int)))) (List.getD data0 (Int.toNat k13) default), IntKind.i64.wrap (k13 + (1 : Int))), (Option.some.inj h1).symm, .eq (by kernel_rfl), hO, hN⟩))
      refine C_ex 2 ?_
      obtain rfl := Option.some.inj h1
      obtain rfl : _ = rr0 := ho0
      replace h0 : slices_symMergeCmpFunc_api_Jump_j13 cmp4 rec data0 = some r := h0
      exact E_done (thenA_exit (thenA_exit (blockA_hit (thenA_normal (⟨rfl, data0, .eq (by kernel_rfl), hO, hN, h0⟩)))))
    refine C_bk 0 ?_
    refine C_hk [(0, (.msl 2 lo0p 0 (List.length data0))), (1, (eInt .i64 a1)), (4, (.fn (.func cmp4_f) cmp4_a cmp4_c)), (10, (eInt .i64 m2)), (11, (eInt .i64 b3))] ?_
    refine C_cut (fun T H => ∃ data0 : List api_Jump, ∃ i10 : Int, ∃ j11 : Int, Has T [(0, (.msl 2 lo0p 0 (List.length data0))), (1, (eInt .i64 a1)), (4, (.fn (.func cmp4_f) cmp4_a cmp4_c)), (10, (eInt .i64 i10)), (11, (eInt .i64 j11))] ∧ Owns ⟨H0, [lo0p], []⟩ H [(lo0p, 2, List.map e_api_Jump data0)] ∧ List.length data0 = N0 ∧ slices_symMergeCmpFunc_api_Jump_h15 cmp4 rec data0 a1 i10 j11 = some r) ?_ ⟨data0, m2, b3, .eq (by kernel_rfl), hO, hN, h0⟩
    clear hO hN h0
    rintro T H ⟨data0, i10, j11, hT, hO, hN, h0⟩
    refine C_has hT ?_
    clear hT
    unfold slices_symMergeCmpFunc_api_Jump_h15 at h0
    obtain ⟨rr0, hl0, h0⟩ := bindE h0
    refine C_loopS (by kernel_rfl) (fun (s : List api_Jump × Int × Int) T H => Has T [(0, (.msl 2 lo0p 0 (List.length s.1))), (1, (eInt .i64 a1)), (4, (.fn (.func cmp4_f) cmp4_a cmp4_c)), (10, (eInt .i64 s.2.1)), (11, (eInt .i64 s.2.2))] ∧ Owns ⟨H0, [lo0p], []⟩ H [(lo0p, 2, List.map e_api_Jump s.1)] ∧ List.length s.1 = N0) hl0 ⟨.eq (by kernel_rfl), hO, hN⟩ ?_
    clear hO hN
    rintro k0 s out1 T H ⟨hT, hO, hN⟩ h1 ho0
    obtain ⟨data0, i10, j11⟩ := s
    replace h1 : slices_symMergeCmpFunc_api_Jump_l15 cmp4 rec a1 data0 i10 j11 = some out1 := h1
    dsimp only at hT
    refine C_has hT ?_
    clear hT
    unfold slices_symMergeCmpFunc_api_Jump_l15 at h1
    refine C_sq ?_
    refine S_al ttOk 3 [] [(33, (eBool (decide (i10 < j11))))] ?_
    refine C_cd h1 (fun h1 => ?_) (fun h1 => ?_)
    · refine C_sk ?_
      refine E_tn [(0, (.msl 2 lo0p 0 (List.length data0))), (1, (eInt .i64 a1)), (4, (.fn (.func cmp4_f) cmp4_a cmp4_c)), (10, (eInt .i64 i10)), (11, (eInt .i64 j11))] ?_
      refine C_bk 1 ?_
      refine C_sq ?_
      refine C_rg ttOk 7 ?_
      obtain ⟨c44, h1⟩ := asrtE h1
      refine R_as [0 ≤ (1 : Int)] ⟨c44, trivial⟩ ?_
      refine E_ad [] [(12, (eInt .i64 (IntKind.i64.wrap (Int.fdiv (IntKind.u64.wrap (IntKind.i64.wrap (i10 + j11))) (2 ^ (min (Int.toNat (1 : Int)) 64))))))] ?_
      refine C_sq ?_
      refine C_dg (plOf []) ttOk 11 ?_
      obtain ⟨c45, h1⟩ := asrtE h1
      refine D_ps 4 [0 ≤ (IntKind.i64.wrap (Int.fdiv (IntKind.u64.wrap (IntKind.i64.wrap (i10 + j11))) (2 ^ (min (Int.toNat (1 : Int)) 64)))) ∧ (IntKind.i64.wrap (Int.fdiv (IntKind.u64.wrap (IntKind.i64.wrap (i10 + j11))) (2 ^ (min (Int.toNat (1 : Int)) 64)))) < ((List.length data0 : Nat) : Int)] ⟨c45, trivial⟩ ?_
      refine D_lO 0 lo0p 2 (0 + Int.toNat (IntKind.i64.wrap (Int.fdiv (IntKind.u64.wrap (IntKind.i64.wrap (i10 + j11))) (2 ^ (min (Int.toNat (1 : Int)) 64))))) (e_api_Jump (List.getD data0 (Int.toNat (IntKind.i64.wrap (Int.fdiv (IntKind.u64.wrap (IntKind.i64.wrap (i10 + j11))) (2 ^ (min (Int.toNat (1 : Int)) 64))))) default)) (e_api_Jump (List.getD data0 (Int.toNat (IntKind.i64.wrap (Int.fdiv (IntKind.u64.wrap (IntKind.i64.wrap (i10 + j11))) (2 ^ (min (Int.toNat (1 : Int)) 64))))) default)) (List.map e_api_Jump data0) hO (ownGet c45) ?_
      obtain ⟨c46, h1⟩ := asrtE h1
      refine D_ps 8 [0 ≤ a1 ∧ a1 < ((List.length data0 : Nat) : Int)] ⟨c46, trivial⟩ ?_
      refine D_lO 0 lo0p 2 (0 + Int.toNat a1) (e_api_Jump (List.getD data0 (Int.toNat a1) default)) (e_api_Jump (List.getD data0 (Int.toNat a1) default)) (List.map e_api_Jump data0) hO (ownGet c46) ?_
      obtain ⟨x47, hx48, h1⟩ := bindE h1
      refine D_callO cmp4_f (cmp4_a ++ [(e_api_Jump (List.getD data0 (Int.toNat (IntKind.i64.wrap (Int.fdiv (IntKind.u64.wrap (IntKind.i64.wrap (i10 + j11))) (2 ^ (min (Int.toNat (1 : Int)) 64))))) default)), (e_api_Jump (List.getD data0 (Int.toNat a1) default))] ++ cmp4_c) (eInt .i64 x47) (by kernel_rfl) (by kernel_rfl) (cmp4_h (List.getD data0 (Int.toNat (IntKind.i64.wrap (Int.fdiv (IntKind.u64.wrap (IntKind.i64.wrap (i10 + j11))) (2 ^ (min (Int.toNat (1 : Int)) 64))))) default) (List.getD data0 (Int.toNat a1) default) _ hx48) hO ?_
      intro H hO
      refine D_al ?_
      refine E_ad [] [(50, (eBool (decide (x47 < (0 : Int)))))] ?_
      refine C_cd h1 (fun h1 => ?_) (fun h1 => ?_)
      · refine C_rg ttOk 3 ?_
        refine R_al ?_
        exact E_done (blockA_normal (thenA_normal (⟨rfl, (data0, IntKind.i64.wrap ((IntKind.i64.wrap (Int.fdiv (IntKind.u64.wrap (IntKind.i64.wrap (i10 + j11))) (2 ^ (min (Int.toNat (1 : Int)) 64)))) + (1 : Int)), j11), (Option.some.inj h1).symm, .eq (by kernel_rfl), hO, hN⟩)))
      refine C_rg ttOk 2 ?_
      refine R_al ?_
      exact E_done (blockA_normal (thenA_normal (⟨rfl, (data0, i10, IntKind.i64.wrap (Int.fdiv (IntKind.u64.wrap (IntKind.i64.wrap (i10 + j11))) (2 ^ (min (Int.toNat (1 : Int)) 64)))), (Option.some.inj h1).symm, .eq (by kernel_rfl), hO, hN⟩)))
    refine C_ex 0 ?_
    obtain rfl := Option.some.inj h1
    obtain rfl : _ = rr0 := ho0
    replace h0 : slices_symMergeCmpFunc_api_Jump_j12 cmp4 rec data0 a1 i10 = some r := h0
    exact E_done (thenA_exit (thenA_exit (blockA_hit (thenA_normal (⟨rfl, data0, i10, .eq (by kernel_rfl), hO, hN, h0⟩)))))
  refine C_sk ?_
  exact E_done (thenA_normal (⟨rfl, data0, .eq (by kernel_rfl), hO, hN, h0⟩))

theorem w_slices_symMergeCmpFunc_api_Jump_at (cmp4_f : Nat) (cmp4_a cmp4_c : List V) (cmp4 : api_Jump → api_Jump → Option Int) (cmp4_h : ∀ a0 a1 r, cmp4 a0 a1 = some r → Fine Try.prog cmp4_f (cmp4_a ++ [(e_api_Jump a0), (e_api_Jump a1)] ++ cmp4_c) (eInt .i64 r)) : ∀ (k : Nat) (lo0p : Nat) (data0 : (List api_Jump)) (a1 : Int) (m2 : Int) (b3 : Int) (r : List api_Jump), slices_symMergeCmpFunc_api_Jump_at cmp4 k data0 a1 m2 b3 = some r → FineI Try.prog 122 lo0p 2 (List.map e_api_Jump data0) (List.map e_api_Jump r) [(.msl 2 lo0p 0 (List.length data0)), (eInt .i64 a1), (eInt .i64 m2), (eInt .i64 b3), (.fn (.func cmp4_f) cmp4_a cmp4_c)] (.tup [])
  | 0, _, _, _, _, _, _, h => by cases h
  | k + 1, lo0p, data0, a1, m2, b3, r, h => w_slices_symMergeCmpFunc_api_Jump_step cmp4_f cmp4_a cmp4_c cmp4 cmp4_h _ (w_slices_symMergeCmpFunc_api_Jump_at cmp4_f cmp4_a cmp4_c cmp4 cmp4_h k) lo0p data0 a1 m2 b3 r h

theorem w_slices_symMergeCmpFunc_api_Jump (lo0p : Nat) (data0 : (List api_Jump)) (a1 : Int) (m2 : Int) (b3 : Int) (cmp4_f : Nat) (cmp4_a cmp4_c : List V) (cmp4 : api_Jump → api_Jump → Option Int) (cmp4_h : ∀ a0 a1 r, cmp4 a0 a1 = some r → Fine Try.prog cmp4_f (cmp4_a ++ [(e_api_Jump a0), (e_api_Jump a1)] ++ cmp4_c) (eInt .i64 r)) (r : List api_Jump) (h0 : s_slices_symMergeCmpFunc_api_Jump data0 a1 m2 b3 cmp4 = some r) : FineI Try.prog 122 lo0p 2 (List.map e_api_Jump data0) (List.map e_api_Jump r) [(.msl 2 lo0p 0 (List.length data0)), (eInt .i64 a1), (eInt .i64 m2), (eInt .i64 b3), (.fn (.func cmp4_f) cmp4_a cmp4_c)] (.tup []) := by
  obtain ⟨k, hk⟩ := fixN_some h0
  exact w_slices_symMergeCmpFunc_api_Jump_at cmp4_f cmp4_a cmp4_c cmp4 cmp4_h k lo0p data0 a1 m2 b3 r hk

theorem w_slices_stableCmpFunc_api_Jump (lo0p : Nat) (data0 : (List api_Jump)) (n1 : Int) (cmp2_f : Nat) (cmp2_a cmp2_c : List V) (cmp2 : api_Jump → api_Jump → Option Int) (cmp2_h : ∀ a0 a1 r, cmp2 a0 a1 = some r → Fine Try.prog cmp2_f (cmp2_a ++ [(e_api_Jump a0), (e_api_Jump a1)] ++ cmp2_c) (eInt .i64 r)) (r : List api_Jump) (h0 : s_slices_stableCmpFunc_api_Jump data0 n1 cmp2 = some r) : FineI Try.prog 117 lo0p 2 (List.map e_api_Jump data0) (List.map e_api_Jump r) [(.msl 2 lo0p 0 (List.length data0)), (eInt .i64 n1), (.fn (.func cmp2_f) cmp2_a cmp2_c)] (.tup []) := by
  intro H0 hl0
  refine F_wk Try.func117 ?_
  have hO := Owns.start1 hl0
  clear hl0
  obtain ⟨N0, hN0⟩ : ∃ n, n = List.length data0 := ⟨_, rfl⟩
  have hN : List.length data0 = N0 := hN0.symm
  unfold s_slices_stableCmpFunc_api_Jump at h0
  refine S_al ttOk 1 [] [(6, (eInt .i64 (20 : Int)))] ?_
  refine S_al ttOk 3 [] [(7, (eInt .i64 (0 : Int))), (8, (eInt .i64 (20 : Int)))] ?_
  refine C_sj (fun T H => ∃ data0 : List api_Jump, ∃ blockSize6 : Int, ∃ a7 : Int, Has T [(0, (.msl 2 lo0p 0 (List.length data0))), (1, (eInt .i64 n1)), (2, (.fn (.func cmp2_f) cmp2_a cmp2_c)), (6, (eInt .i64 blockSize6)), (7, (eInt .i64 a7))] ∧ Owns ⟨H0, [lo0p], []⟩ H [(lo0p, 2, List.map e_api_Jump data0)] ∧ List.length data0 = N0 ∧ slices_stableCmpFunc_api_Jump_j1 cmp2 data0 n1 blockSize6 a7 = some r) ?_ ?_
  · clear hO hN h0
    rintro T H ⟨data0, blockSize6, a7, hT, hO, hN, h0⟩
    refine C_has hT ?_
    clear hT
    unfold slices_stableCmpFunc_api_Jump_j1 at h0
    refine C_sq ?_
    refine C_rg ttOk 5 ?_
    refine R_pu 4 ?_
    obtain ⟨x1, hx2, h0⟩ := bindE h0
    refine R_callI (L' := [(lo0p, 2, List.map e_api_Jump x1)]) 0 lo0p 2 (List.map e_api_Jump data0) (List.map e_api_Jump x1) 121 [(.msl 2 lo0p 0 (List.length data0)), (eInt .i64 a7), (eInt .i64 n1), (.fn (.func cmp2_f) cmp2_a cmp2_c)] (.tup []) (by kernel_rfl) (by kernel_rfl) (w_slices_insertionSortCmpFunc_api_Jump lo0p data0 a7 n1 cmp2_f cmp2_a cmp2_c cmp2 cmp2_h _ hx2) hO (by kernel_rfl) (by kernel_rfl) ?_
    intro H hO hl3
    simp only [List.length_map] at hl3
    replace hN := hl3.trans hN
    refine R_en ?_
    refine E_has (l := [(0, (.msl 2 lo0p 0 (List.length x1))), (1, (eInt .i64 n1)), (2, (.fn (.func cmp2_f) cmp2_a cmp2_c)), (6, (eInt .i64 blockSize6))]) ⟨[(0, (.msl 2 lo0p 0 (List.length data0))), (1, (eInt .i64 n1)), (2, (.fn (.func cmp2_f) cmp2_a cmp2_c)), (6, (eInt .i64 blockSize6))], by kernel_rfl, rfl, ⟨SubV.eq (by simp [hl3]), SubV.refl _, SubV.refl _, SubV.refl _, trivial⟩⟩ ?_
    refine E_done (thenA_normal (?_))
    refine C_bk 2 ?_
    refine C_hk [(0, (.msl 2 lo0p 0 (List.length x1))), (1, (eInt .i64 n1)), (2, (.fn (.func cmp2_f) cmp2_a cmp2_c)), (6, (eInt .i64 blockSize6))] ?_
    refine C_cut (fun T H => ∃ data0 : List api_Jump, ∃ blockSize6 : Int, Has T [(0, (.msl 2 lo0p 0 (List.length data0))), (1, (eInt .i64 n1)), (2, (.fn (.func cmp2_f) cmp2_a cmp2_c)), (6, (eInt .i64 blockSize6))] ∧ Owns ⟨H0, [lo0p], []⟩ H [(lo0p, 2, List.map e_api_Jump data0)] ∧ List.length data0 = N0 ∧ slices_stableCmpFunc_api_Jump_h2 cmp2 data0 n1 blockSize6 = some r) ?_ ⟨x1, blockSize6, .eq (by kernel_rfl), hO, hN, h0⟩
    clear hO hN h0
    rintro T H ⟨data0, blockSize6, hT, hO, hN, h0⟩
    refine C_has hT ?_
    clear hT
    unfold slices_stableCmpFunc_api_Jump_h2 at h0
    obtain ⟨rr0, hl0, h0⟩ := bindE h0
    refine C_loopS (by kernel_rfl) (fun (s : List api_Jump × Int) T H => Has T [(0, (.msl 2 lo0p 0 (List.length s.1))), (1, (eInt .i64 n1)), (2, (.fn (.func cmp2_f) cmp2_a cmp2_c)), (6, (eInt .i64 s.2))] ∧ Owns ⟨H0, [lo0p], []⟩ H [(lo0p, 2, List.map e_api_Jump s.1)] ∧ List.length s.1 = N0) hl0 ⟨.eq (by kernel_rfl), hO, hN⟩ ?_
    clear hO hN
    rintro k0 s out1 T H ⟨hT, hO, hN⟩ h1 ho0
    obtain ⟨data0, blockSize6⟩ := s
    replace h1 : slices_stableCmpFunc_api_Jump_l2 cmp2 n1 data0 blockSize6 = some out1 := h1
    dsimp only at hT
    refine C_has hT ?_
    clear hT
    unfold slices_stableCmpFunc_api_Jump_l2 at h1
    refine C_sq ?_
    refine S_al ttOk 3 [] [(30, (eBool (decide (blockSize6 < n1))))] ?_
    refine C_cd h1 (fun h1 => ?_) (fun h1 => ?_)
    · refine C_sk ?_
      refine E_tn [(0, (.msl 2 lo0p 0 (List.length data0))), (1, (eInt .i64 n1)), (2, (.fn (.func cmp2_f) cmp2_a cmp2_c)), (6, (eInt .i64 blockSize6))] ?_
      refine C_bk 3 ?_
      refine S_al ttOk 4 [] [(7, (eInt .i64 (0 : Int))), (8, (eInt .i64 (IntKind.i64.wrap ((2 : Int) * blockSize6))))] ?_
      refine C_sj (fun T H => ∃ data0 : List api_Jump, ∃ a7 : Int, Has T [(0, (.msl 2 lo0p 0 (List.length data0))), (1, (eInt .i64 n1)), (2, (.fn (.func cmp2_f) cmp2_a cmp2_c)), (6, (eInt .i64 blockSize6)), (7, (eInt .i64 a7))] ∧ Owns ⟨H0, [lo0p], []⟩ H [(lo0p, 2, List.map e_api_Jump data0)] ∧ List.length data0 = N0 ∧ slices_stableCmpFunc_api_Jump_j3 cmp2 data0 n1 blockSize6 a7 = some out1) ?_ ?_
      · clear hO hN h1
        rintro T H ⟨data0, a7, hT, hO, hN, h1⟩
        refine C_has hT ?_
        clear hT
        unfold slices_stableCmpFunc_api_Jump_j3 at h1
        refine C_sj (fun T H => ∃ data0 : List api_Jump, Has T [(0, (.msl 2 lo0p 0 (List.length data0))), (1, (eInt .i64 n1)), (2, (.fn (.func cmp2_f) cmp2_a cmp2_c)), (6, (eInt .i64 blockSize6))] ∧ Owns ⟨H0, [lo0p], []⟩ H [(lo0p, 2, List.map e_api_Jump data0)] ∧ List.length data0 = N0 ∧ slices_stableCmpFunc_api_Jump_j4 cmp2 data0 n1 blockSize6 = some out1) ?_ ?_
        · clear hO hN h1
          rintro T H ⟨data0, hT, hO, hN, h1⟩
          refine C_has hT ?_
          clear hT
          unfold slices_stableCmpFunc_api_Jump_j4 at h1
          refine C_rg ttOk 3 ?_
          refine R_al ?_
          exact E_done (blockA_normal (thenA_normal (⟨rfl, (data0, IntKind.i64.wrap (blockSize6 * (2 : Int))), (Option.some.inj h1).symm, .eq (by kernel_rfl), hO, hN⟩)))
        refine S_al ttOk 4 [] [(9, (eInt .i64 (IntKind.i64.wrap (a7 + blockSize6))))] ?_
        refine S_al ttOk 3 [] [(54, (eBool (decide ((IntKind.i64.wrap (a7 + blockSize6)) < n1))))] ?_
        refine C_cd h1 (fun h1 => ?_) (fun h1 => ?_)
        · refine C_rg ttOk 6 ?_
          refine R_pu 5 ?_
          obtain ⟨x6, hx7, h1⟩ := bindE h1
          refine R_callI (L' := [(lo0p, 2, List.map e_api_Jump x6)]) 0 lo0p 2 (List.map e_api_Jump data0) (List.map e_api_Jump x6) 122 [(.msl 2 lo0p 0 (List.length data0)), (eInt .i64 a7), (eInt .i64 (IntKind.i64.wrap (a7 + blockSize6))), (eInt .i64 n1), (.fn (.func cmp2_f) cmp2_a cmp2_c)] (.tup []) (by kernel_rfl) (by kernel_rfl) (w_slices_symMergeCmpFunc_api_Jump lo0p data0 a7 (IntKind.i64.wrap (a7 + blockSize6)) n1 cmp2_f cmp2_a cmp2_c cmp2 cmp2_h _ hx7) hO (by kernel_rfl) (by kernel_rfl) ?_
          intro H hO hl8
          simp only [List.length_map] at hl8
          replace hN := hl8.trans hN
          refine R_en ?_
          refine E_has (l := [(0, (.msl 2 lo0p 0 (List.length x6))), (1, (eInt .i64 n1)), (2, (.fn (.func cmp2_f) cmp2_a cmp2_c)), (6, (eInt .i64 blockSize6))]) ⟨[(0, (.msl 2 lo0p 0 (List.length data0))), (1, (eInt .i64 n1)), (2, (.fn (.func cmp2_f) cmp2_a cmp2_c)), (6, (eInt .i64 blockSize6))], by kernel_rfl, rfl, ⟨SubV.eq (by simp [hl8]), SubV.refl _, SubV.refl _, SubV.refl _, trivial⟩⟩ ?_
          exact E_done (thenA_normal (⟨rfl, x6, .eq (by kernel_rfl), hO, hN, h1⟩))
        refine C_sk ?_
        exact E_done (thenA_normal (⟨rfl, data0, .eq (by kernel_rfl), hO, hN, h1⟩))
      refine C_bk 4 ?_
      refine C_hk [(0, (.msl 2 lo0p 0 (List.length data0))), (1, (eInt .i64 n1)), (2, (.fn (.func cmp2_f) cmp2_a cmp2_c)), (6, (eInt .i64 blockSize6)), (7, (eInt .i64 (0 : Int))), (8, (eInt .i64 (IntKind.i64.wrap ((2 : Int) * blockSize6))))] ?_
      refine C_cut (fun T H => ∃ data0 : List api_Jump, ∃ a7 : Int, ∃ b8 : Int, Has T [(0, (.msl 2 lo0p 0 (List.length data0))), (1, (eInt .i64 n1)), (2, (.fn (.func cmp2_f) cmp2_a cmp2_c)), (6, (eInt .i64 blockSize6)), (7, (eInt .i64 a7)), (8, (eInt .i64 b8))] ∧ Owns ⟨H0, [lo0p], []⟩ H [(lo0p, 2, List.map e_api_Jump data0)] ∧ List.length data0 = N0 ∧ slices_stableCmpFunc_api_Jump_h5 cmp2 data0 n1 blockSize6 a7 b8 = some out1) ?_ ⟨data0, (0 : Int), IntKind.i64.wrap ((2 : Int) * blockSize6), .eq (by kernel_rfl), hO, hN, h1⟩
      clear hO hN h1
      rintro T H ⟨data0, a7, b8, hT, hO, hN, h1⟩
      refine C_has hT ?_
      clear hT
      unfold slices_stableCmpFunc_api_Jump_h5 at h1
      obtain ⟨rr1, hl1, h1⟩ := bindE h1
      refine C_loopS (by kernel_rfl) (fun (s : List api_Jump × Int × Int) T H => Has T [(0, (.msl 2 lo0p 0 (List.length s.1))), (1, (eInt .i64 n1)), (2, (.fn (.func cmp2_f) cmp2_a cmp2_c)), (6, (eInt .i64 blockSize6)), (7, (eInt .i64 s.2.1)), (8, (eInt .i64 s.2.2))] ∧ Owns ⟨H0, [lo0p], []⟩ H [(lo0p, 2, List.map e_api_Jump s.1)] ∧ List.length s.1 = N0) hl1 ⟨.eq (by kernel_rfl), hO, hN⟩ ?_
      clear hO hN
      rintro k1 s out2 T H ⟨hT, hO, hN⟩ h2 ho1
      obtain ⟨data0, a7, b8⟩ := s
      replace h2 : slices_stableCmpFunc_api_Jump_l5 cmp2 n1 blockSize6 data0 a7 b8 = some out2 := h2
      dsimp only at hT
      refine C_has hT ?_
      clear hT
      unfold slices_stableCmpFunc_api_Jump_l5 at h2
      refine C_sq ?_
      refine S_al ttOk 3 [] [(35, (eBool (decide (b8 ≤ n1))))] ?_
      refine C_cd h2 (fun h2 => ?_) (fun h2 => ?_)
      · refine C_sk ?_
        refine E_tn [(0, (.msl 2 lo0p 0 (List.length data0))), (1, (eInt .i64 n1)), (2, (.fn (.func cmp2_f) cmp2_a cmp2_c)), (6, (eInt .i64 blockSize6)), (7, (eInt .i64 a7)), (8, (eInt .i64 b8))] ?_
        refine C_bk 5 ?_
        refine C_sq ?_
        refine C_rg ttOk 8 ?_
        refine R_pu 7 ?_
        obtain ⟨x10, hx11, h2⟩ := bindE h2
        refine R_callI (L' := [(lo0p, 2, List.map e_api_Jump x10)]) 0 lo0p 2 (List.map e_api_Jump data0) (List.map e_api_Jump x10) 122 [(.msl 2 lo0p 0 (List.length data0)), (eInt .i64 a7), (eInt .i64 (IntKind.i64.wrap (a7 + blockSize6))), (eInt .i64 b8), (.fn (.func cmp2_f) cmp2_a cmp2_c)] (.tup []) (by kernel_rfl) (by kernel_rfl) (w_slices_symMergeCmpFunc_api_Jump lo0p data0 a7 (IntKind.i64.wrap (a7 + blockSize6)) b8 cmp2_f cmp2_a cmp2_c cmp2 cmp2_h _ hx11) hO (by kernel_rfl) (by kernel_rfl) ?_
        intro H hO hl12
        simp only [List.length_map] at hl12
        replace hN := hl12.trans hN
        refine R_en ?_
        refine E_has (l := [(0, (.msl 2 lo0p 0 (List.length x10))), (1, (eInt .i64 n1)), (2, (.fn (.func cmp2_f) cmp2_a cmp2_c)), (6, (eInt .i64 blockSize6)), (8, (eInt .i64 b8))]) ⟨[(0, (.msl 2 lo0p 0 (List.length data0))), (1, (eInt .i64 n1)), (2, (.fn (.func cmp2_f) cmp2_a cmp2_c)), (6, (eInt .i64 blockSize6)), (8, (eInt .i64 b8))], by kernel_rfl, rfl, ⟨SubV.eq (by simp [hl12]), SubV.refl _, SubV.refl _, SubV.refl _, SubV.refl _, trivial⟩⟩ ?_
        refine E_done (thenA_normal (?_))
        refine S_al ttOk 2 [] [(7, (eInt .i64 b8))] ?_
        refine C_rg ttOk 5 ?_
        refine R_al ?_
        exact E_done (blockA_normal (thenA_normal (⟨rfl, (x10, b8, IntKind.i64.wrap (b8 + (IntKind.i64.wrap ((2 : Int) * blockSize6)))), (Option.some.inj h2).symm, .eq (by kernel_rfl), hO, hN⟩)))
      refine C_ex 4 ?_
      obtain rfl := Option.some.inj h2
      obtain rfl : _ = rr1 := ho1
      replace h1 : slices_stableCmpFunc_api_Jump_j3 cmp2 data0 n1 blockSize6 a7 = some out1 := h1
      exact E_done (thenA_exit (thenA_exit (blockA_hit (thenA_normal (⟨rfl, data0, a7, .eq (by kernel_rfl), hO, hN, h1⟩)))))
    refine C_ex 2 ?_
    obtain rfl := Option.some.inj h1
    obtain rfl : _ = rr0 := ho0
    replace h0 : some data0 = some r := h0
    obtain rfl := Option.some.inj h0
    exact E_done (thenA_exit (thenA_exit (blockA_hit (Q_end (x := (.tup [])) (by kernel_rfl) (SubV.refl _) ⟨rfl, hO.ext, hO.at 0 (by kernel_rfl), by simp only [List.length_map]; exact hN.trans hN0⟩))))
  refine C_bk 0 ?_
  refine C_hk [(0, (.msl 2 lo0p 0 (List.length data0))), (1, (eInt .i64 n1)), (2, (.fn (.func cmp2_f) cmp2_a cmp2_c)), (6, (eInt .i64 (20 : Int))), (7, (eInt .i64 (0 : Int))), (8, (eInt .i64 (20 : Int)))] ?_
  refine C_cut (fun T H => ∃ data0 : List api_Jump, ∃ blockSize6 : Int, ∃ a7 : Int, ∃ b8 : Int, Has T [(0, (.msl 2 lo0p 0 (List.length data0))), (1, (eInt .i64 n1)), (2, (.fn (.func cmp2_f) cmp2_a cmp2_c)), (6, (eInt .i64 blockSize6)), (7, (eInt .i64 a7)), (8, (eInt .i64 b8))] ∧ Owns ⟨H0, [lo0p], []⟩ H [(lo0p, 2, List.map e_api_Jump data0)] ∧ List.length data0 = N0 ∧ slices_stableCmpFunc_api_Jump_h6 cmp2 data0 n1 blockSize6 a7 b8 = some r) ?_ ⟨data0, (20 : Int), (0 : Int), (20 : Int), .eq (by kernel_rfl), hO, hN, h0⟩
  clear hO hN h0
  rintro T H ⟨data0, blockSize6, a7, b8, hT, hO, hN, h0⟩
  refine C_has hT ?_
  clear hT
  unfold slices_stableCmpFunc_api_Jump_h6 at h0
  obtain ⟨rr0, hl0, h0⟩ := bindE h0
  refine C_loopS (by kernel_rfl) (fun (s : List api_Jump × Int × Int) T H => Has T [(0, (.msl 2 lo0p 0 (List.length s.1))), (1, (eInt .i64 n1)), (2, (.fn (.func cmp2_f) cmp2_a cmp2_c)), (6, (eInt .i64 blockSize6)), (7, (eInt .i64 s.2.1)), (8, (eInt .i64 s.2.2))] ∧ Owns ⟨H0, [lo0p], []⟩ H [(lo0p, 2, List.map e_api_Jump s.1)] ∧ List.length s.1 = N0) hl0 ⟨.eq (by kernel_rfl), hO, hN⟩ ?_
  clear hO hN
  rintro k0 s out1 T H ⟨hT, hO, hN⟩ h1 ho0
  obtain ⟨data0, a7, b8⟩ := s
  replace h1 : slices_stableCmpFunc_api_Jump_l6 cmp2 n1 blockSize6 data0 a7 b8 = some out1 := h1
  dsimp only at hT
  refine C_has hT ?_
  clear hT
  unfold slices_stableCmpFunc_api_Jump_l6 at h1
  refine C_sq ?_
  refine S_al ttOk 3 [] [(13, (eBool (decide (b8 ≤ n1))))] ?_
  refine C_cd h1 (fun h1 => ?_) (fun h1 => ?_)
  · refine C_sk ?_
    refine E_tn [(0, (.msl 2 lo0p 0 (List.length data0))), (1, (eInt .i64 n1)), (2, (.fn (.func cmp2_f) cmp2_a cmp2_c)), (6, (eInt .i64 blockSize6)), (7, (eInt .i64 a7)), (8, (eInt .i64 b8))] ?_
    refine C_bk 1 ?_
    refine C_sq ?_
    refine C_rg ttOk 5 ?_
    refine R_pu 4 ?_
    obtain ⟨x14, hx15, h1⟩ := bindE h1
    refine R_callI (L' := [(lo0p, 2, List.map e_api_Jump x14)]) 0 lo0p 2 (List.map e_api_Jump data0) (List.map e_api_Jump x14) 121 [(.msl 2 lo0p 0 (List.length data0)), (eInt .i64 a7), (eInt .i64 b8), (.fn (.func cmp2_f) cmp2_a cmp2_c)] (.tup []) (by kernel_rfl) (by kernel_rfl) (w_slices_insertionSortCmpFunc_api_Jump lo0p data0 a7 b8 cmp2_f cmp2_a cmp2_c cmp2 cmp2_h _ hx15) hO (by kernel_rfl) (by kernel_rfl) ?_
    intro H hO hl16
    simp only [List.length_map] at hl16
    replace hN := hl16.trans hN
    refine R_en ?_
    refine E_has (l := [(0, (.msl 2 lo0p 0 (List.length x14))), (1, (eInt .i64 n1)), (2, (.fn (.func cmp2_f) cmp2_a cmp2_c)), (6, (eInt .i64 blockSize6)), (8, (eInt .i64 b8))]) ⟨[(0, (.msl 2 lo0p 0 (List.length data0))), (1, (eInt .i64 n1)), (2, (.fn (.func cmp2_f) cmp2_a cmp2_c)), (6, (eInt .i64 blockSize6)), (8, (eInt .i64 b8))], by kernel_rfl, rfl, ⟨SubV.eq (by simp [hl16]), SubV.refl _, SubV.refl _, SubV.refl _, SubV.refl _, trivial⟩⟩ ?_
    refine E_done (thenA_normal (?_))
    refine S_al ttOk 2 [] [(7, (eInt .i64 b8))] ?_
    refine C_rg ttOk 4 ?_
    refine R_al ?_
    exact E_done (blockA_normal (thenA_normal (⟨rfl, (x14, b8, IntKind.i64.wrap (b8 + blockSize6)), (Option.some.inj h1).symm, .eq (by kernel_rfl), hO, hN⟩)))
  refine C_ex 0 ?_
  obtain rfl := Option.some.inj h1
  obtain rfl : _ = rr0 := ho0
  replace h0 : slices_stableCmpFunc_api_Jump_j1 cmp2 data0 n1 blockSize6 a7 = some r := h0
  exact E_done (thenA_exit (thenA_exit (blockA_hit (thenA_normal (⟨rfl, data0, blockSize6, a7, .eq (by kernel_rfl), hO, hN, h0⟩)))))

theorem w_slices_SortStableFunc_api_Jump_api_Jump (lo0p : Nat) (x0 : (List api_Jump)) (cmp1_f : Nat) (cmp1_a cmp1_c : List V) (cmp1 : api_Jump → api_Jump → Option Int) (cmp1_h : ∀ a0 a1 r, cmp1 a0 a1 = some r → Fine Try.prog cmp1_f (cmp1_a ++ [(e_api_Jump a0), (e_api_Jump a1)] ++ cmp1_c) (eInt .i64 r)) (r : List api_Jump) (h0 : s_slices_SortStableFunc_api_Jump_api_Jump x0 cmp1 = some r) : FineI Try.prog 100 lo0p 2 (List.map e_api_Jump x0) (List.map e_api_Jump r) [(.msl 2 lo0p 0 (List.length x0)), (.fn (.func cmp1_f) cmp1_a cmp1_c)] (.tup []) := by
  intro H0 hl0
  refine F_wk Try.func100 ?_
  have hO := Owns.start1 hl0
  clear hl0
  obtain ⟨N0, hN0⟩ : ∃ n, n = List.length x0 := ⟨_, rfl⟩
  have hN : List.length x0 = N0 := hN0.symm
  unfold s_slices_SortStableFunc_api_Jump_api_Jump at h0
  refine C_rg ttOk 5 ?_
  refine R_pu 4 ?_
  obtain ⟨x1, hx2, h0⟩ := bindE h0
  refine R_callI (L' := [(lo0p, 2, List.map e_api_Jump x1)]) 0 lo0p 2 (List.map e_api_Jump x0) (List.map e_api_Jump x1) 117 [(.msl 2 lo0p 0 (List.length x0)), (eInt .i64 ((List.length x0 : Nat) : Int)), (.fn (.func cmp1_f) cmp1_a cmp1_c)] (.tup []) (by kernel_rfl) (by kernel_rfl) (w_slices_stableCmpFunc_api_Jump lo0p x0 ((List.length x0 : Nat) : Int) cmp1_f cmp1_a cmp1_c cmp1 cmp1_h _ hx2) hO (by kernel_rfl) (by kernel_rfl) ?_
  intro H hO hl3
  simp only [List.length_map] at hl3
  replace hN := hl3.trans hN
  refine R_en ?_
  refine E_has (l := [(0, (.msl 2 lo0p 0 (List.length x1)))]) ⟨[(0, (.msl 2 lo0p 0 (List.length x0)))], by kernel_rfl, rfl, ⟨SubV.eq (by simp [hl3]), trivial⟩⟩ ?_
  obtain rfl := Option.some.inj h0
  exact E_done (Q_end (x := (.tup [])) (by kernel_rfl) (SubV.refl _) ⟨rfl, hO.ext, hO.at 0 (by kernel_rfl), by simp only [List.length_map]; exact hN.trans hN0⟩)

theorem w_step_Norm_3 (a0 : api_Jump) (b1 : api_Jump) (r : Int) (h0 : s_step_Norm_3 a0 b1 = some r) : Fine Try.prog 101 [(e_api_Jump a0), (e_api_Jump b1)] (eInt .i64 r) := by
  intro H0
  refine F_wk Try.func101 ?_
  have hO := Owns.start H0
  unfold s_step_Norm_3 at h0
  refine C_sq ?_
  refine C_rg ttOk 3 ?_
  refine R_boxF 2 (e_api_Jump a0) (by kernel_rfl) (by kernel_rfl) ?_
  refine R_boxF 2 (e_api_Jump b1) (by kernel_rfl) (by kernel_rfl) ?_
  refine R_al ?_
  refine E_tn [(2, (.rp (e_api_Jump a0))), (3, (.rp (e_api_Jump b1)))] ?_
  refine C_sq ?_
  refine C_rg ttOk 6 ?_
  refine R_pu 4 ?_
  obtain ⟨x1, hx2, h0⟩ := bindE h0
  refine R_cO 62 [(eInt .i64 a0.At), (eInt .i64 b1.At)] (eInt .i64 x1) (w_cmp_Compare_int a0.At b1.At _ hx2) hO ?_
  intro H hO
  refine R_al ?_
  refine E_tn [(4, (eInt .i64 x1))] ?_
  refine C_rt ?_
  obtain rfl := Option.some.inj h0
  exact E_done (Q_ret (x := (eInt .i64 x1)) (by kernel_rfl) (SubV.refl _) ⟨rfl, hO.out⟩)

theorem w_step_told (f0 : (List api_Jump)) (r : ((List api_Jump) × Int)) (h0 : s_step_told f0 = some r) : Fine Try.prog 102 [(eL e_api_Jump f0)] (.tup [(eL e_api_Jump r.1), (eInt .i64 r.2)]) := by
  intro H0
  refine F_wk Try.func102 ?_
  have hO := Owns.start H0
  unfold s_step_told at h0
  refine S_al ttOk 2 [] [] ?_
  refine C_sq ?_
  refine C_sq ?_
  refine C_rg ttOk 3 ?_
  refine R_pu 1 ?_
  obtain ⟨x1, hx2, h0⟩ := bindE h0
  refine R_cO 51 [(eL e_api_Jump f0)] (eBool x1) (w_step_May f0 _ hx2) hO ?_
  intro H hO
  refine R_al ?_
  refine E_ad [] [(6, (eBool (!x1)))] ?_
  refine C_cd h0 (fun h0 => ?_) (fun h0 => ?_)
  · refine S_tn ttOk 2 [(2, (.sl true 0 (fun _ => .bad))), (3, (eInt .i64 (7 : Int)))] ?_
    refine C_rt ?_
    refine E_has (l := [(2, (eL e_api_Jump ([]))), (3, (eInt .i64 (7 : Int)))]) ⟨[(2, (.sl true 0 (fun _ => .bad))), (3, (eInt .i64 (7 : Int)))], by kernel_rfl, rfl, ⟨subNilL, SubV.refl _, trivial⟩⟩ ?_
    obtain rfl := Option.some.inj h0
    exact E_done (thenA_ret (Q_ret (x := (.tup [(eL e_api_Jump ([])), (eInt .i64 (7 : Int))])) (by kernel_rfl) (SubV.refl _) ⟨rfl, hO.out⟩))
  refine C_sk ?_
  refine E_tn [(0, (eL e_api_Jump f0))] ?_
  refine S_tn ttOk 3 [(2, (eL e_api_Jump f0)), (3, (eInt .i64 (0 : Int)))] ?_
  refine C_rt ?_
  obtain rfl := Option.some.inj h0
  exact E_done (Q_ret (x := (.tup [(eL e_api_Jump f0), (eInt .i64 (0 : Int))])) (by kernel_rfl) (SubV.refl _) ⟨rfl, hO.out⟩)

theorem w_step_Norm (l0 : (List api_Jump)) (r : ((List api_Jump) × Int)) (h0 : s_step_Norm l0 = some r) : Fine Try.prog 65 [(eL e_api_Jump l0)] (.tup [(eL e_api_Jump r.1), (eInt .i64 r.2)]) := by
  intro H0
  refine F_wk Try.func65 ?_
  have hO := Owns.start H0
  unfold s_step_Norm at h0
  refine S_al ttOk 2 [] [] ?_
  refine C_sq ?_
  refine C_sq ?_
  refine C_rg ttOk 2 ?_
  refine R_pu 1 ?_
  obtain ⟨x1, hx2, h0⟩ := bindE h0
  refine R_cO 96 [(eL e_api_Jump l0), (.fn (.func 97) [] [])] (eBool x1) (w_slices_ContainsFunc_api_Jump_api_Jump l0 97 [] [] (fun y0 => s_step_Norm_1 y0) (fun y0 r h => w_step_Norm_1 y0 r h) _ hx2) hO ?_
  intro H hO
  refine R_en ?_
  refine E_ad [] [(9, (eBool x1))] ?_
  refine C_cd h0 (fun h0 => ?_) (fun h0 => ?_)
  · refine S_tn ttOk 2 [(2, (.sl true 0 (fun _ => .bad))), (3, (eInt .i64 (2 : Int)))] ?_
    refine C_rt ?_
    refine E_has (l := [(2, (eL e_api_Jump ([]))), (3, (eInt .i64 (2 : Int)))]) ⟨[(2, (.sl true 0 (fun _ => .bad))), (3, (eInt .i64 (2 : Int)))], by kernel_rfl, rfl, ⟨subNilL, SubV.refl _, trivial⟩⟩ ?_
    obtain rfl := Option.some.inj h0
    exact E_done (thenA_ret (Q_ret (x := (.tup [(eL e_api_Jump ([])), (eInt .i64 (2 : Int))])) (by kernel_rfl) (SubV.refl _) ⟨rfl, hO.out⟩))
  refine C_sk ?_
  refine E_tn [(0, (eL e_api_Jump l0))] ?_
  refine C_sq ?_
  refine C_sq ?_
  refine C_rg ttOk 2 ?_
  refine R_pu 1 ?_
  obtain ⟨x5, hx6, h0⟩ := bindE h0
  refine R_cO 96 [(eL e_api_Jump l0), (.fn (.func 98) [] [])] (eBool x5) (w_slices_ContainsFunc_api_Jump_api_Jump l0 98 [] [] (fun y0 => s_step_Norm_2 y0) (fun y0 r h => w_step_Norm_2 y0 r h) _ hx6) hO ?_
  intro H hO
  refine R_en ?_
  refine E_ad [] [(11, (eBool x5))] ?_
  refine C_cd h0 (fun h0 => ?_) (fun h0 => ?_)
  · refine S_tn ttOk 2 [(2, (.sl true 0 (fun _ => .bad))), (3, (eInt .i64 (13 : Int)))] ?_
    refine C_rt ?_
    refine E_has (l := [(2, (eL e_api_Jump ([]))), (3, (eInt .i64 (13 : Int)))]) ⟨[(2, (.sl true 0 (fun _ => .bad))), (3, (eInt .i64 (13 : Int)))], by kernel_rfl, rfl, ⟨subNilL, SubV.refl _, trivial⟩⟩ ?_
    obtain rfl := Option.some.inj h0
    exact E_done (thenA_ret (Q_ret (x := (.tup [(eL e_api_Jump ([])), (eInt .i64 (13 : Int))])) (by kernel_rfl) (SubV.refl _) ⟨rfl, hO.out⟩))
  refine C_sk ?_
  refine E_tn [(0, (eL e_api_Jump l0))] ?_
  refine C_sq ?_
  refine C_rg ttOk 3 ?_
  refine R_pu 1 ?_
  obtain ⟨x9, hx10, h0⟩ := bindE h0
  refine R_callP (L' := fun lo11 => [(lo11, 2, List.map e_api_Jump x9)]) 2 (List.map e_api_Jump x9) 99 [(eL e_api_Jump l0)] (fun lo11 => (.msl 2 lo11 0 (List.length x9))) (by kernel_rfl) (by kernel_rfl) (w_slices_Clone_api_Jump_api_Jump l0 _ hx10) hO (fun _ => by kernel_rfl) ?_
  intro lo11 H hO
  refine R_al ?_
  refine E_tn [(4, (.msl 2 lo11 0 (List.length x9)))] ?_
  refine C_sq ?_
  refine C_rg ttOk 2 ?_
  refine R_pu 1 ?_
  obtain ⟨x12, hx13, h0⟩ := bindE h0
  refine R_callI (L' := [(lo11, 2, List.map e_api_Jump x12)]) 0 lo11 2 (List.map e_api_Jump x9) (List.map e_api_Jump x12) 100 [(.msl 2 lo11 0 (List.length x9)), (.fn (.func 101) [] [])] (.tup []) (by kernel_rfl) (by kernel_rfl) (w_slices_SortStableFunc_api_Jump_api_Jump lo11 x9 101 [] [] (fun y0 y1 => s_step_Norm_3 y0 y1) (fun y0 y1 r h => w_step_Norm_3 y0 y1 r h) _ hx13) hO (by kernel_rfl) (by kernel_rfl) ?_
  intro H hO hl14
  simp only [List.length_map] at hl14
  refine R_en ?_
  refine E_has (l := [(4, (.msl 2 lo11 0 (List.length x12)))]) ⟨[(4, (.msl 2 lo11 0 (List.length x9)))], by kernel_rfl, rfl, ⟨SubV.eq (by simp [hl14]), trivial⟩⟩ ?_
  refine E_done (thenA_normal (?_))
  refine C_sq ?_
  refine C_rg ttOk 2 ?_
  refine R_bsl (xs := []) (k := 2) (by kernel_rfl) (by kernel_rfl) ?_
  refine R_al ?_
  refine E_ad [] [(5, (.sl true 0 (fun _ => .bad)))] ?_
  refine C_sj (fun T H => ∃ out5 : List api_Jump, ∃ lo15 : Nat, Has T [(5, (.msl 2 lo15 0 (List.length out5)))] ∧ Owns ⟨H0, [], []⟩ H [(lo15, 2, List.map e_api_Jump out5)] ∧ step_Norm_j1 out5 = some r) ?_ ?_
  · clear hO h0
    rintro T H ⟨out5, lo15, hT, hO, h0⟩
    refine C_has hT ?_
    clear hT
    unfold step_Norm_j1 at h0
    refine C_sq ?_
    refine C_rg ttOk 6 ?_
    refine R_freezeO (e := e_api_Jump) out5 0 5 2 lo15 (List.length out5) [] (by kernel_rfl) hO (by kernel_rfl) (by kernel_rfl) (by kernel_rfl) (by kernel_rfl) ?_
    intro H hO
    refine R_pu 1 ?_
    obtain ⟨x16, hx17, h0⟩ := bindE h0
    refine R_cO 102 [(eL e_api_Jump out5)] (.tup [(eL e_api_Jump x16.1), (eInt .i64 x16.2)]) (w_step_told out5 _ hx17) hO ?_
    intro H hO
    refine R_al ?_
    refine E_tn [(2, (eL e_api_Jump x16.1)), (3, (eInt .i64 x16.2))] ?_
    refine C_rt ?_
    obtain rfl := Option.some.inj h0
    exact E_done (Q_ret (x := (.tup [(eL e_api_Jump x16.1), (eInt .i64 x16.2)])) (by kernel_rfl) (SubV.refl _) ⟨rfl, hO.out⟩)
  refine S_al ttOk 1 [] [(6, (eInt .i64 (0 : Int)))] ?_
  refine C_bk 0 ?_
  refine C_hk [(4, (.msl 2 lo11 0 (List.length x12))), (5, (.sl true 0 (fun _ => .bad))), (6, (eInt .i64 (0 : Int)))] ?_
  refine C_ownO (el := (fun _ => .bad)) 1 5 2 hO (by kernel_rfl) ?_
  intro lo43 H44 hO
  refine C_cut (fun T H => ∃ all4 : List api_Jump, ∃ out5 : List api_Jump, ∃ i6 : Int, ∃ lo21 : Nat, ∃ lo22 : Nat, Has T [(4, (.msl 2 lo21 0 (List.length all4))), (5, (.msl 2 lo22 0 (List.length out5))), (6, (eInt .i64 i6))] ∧ Owns ⟨H0, [], []⟩ H [(lo21, 2, List.map e_api_Jump all4), (lo22, 2, List.map e_api_Jump out5)] ∧ step_Norm_h2 all4 out5 i6 = some r) ?_ ⟨x12, ([] : List api_Jump), (0 : Int), lo11, lo43, .eq (by kernel_rfl), hO, h0⟩
  clear hO h0
  rintro T H ⟨all4, out5, i6, lo21, lo22, hT, hO, h0⟩
  refine C_has hT ?_
  clear hT
  unfold step_Norm_h2 at h0
  obtain ⟨rr0, hl0, h0⟩ := bindE h0
  refine C_loopS (by kernel_rfl) (fun (s : List api_Jump × List api_Jump × Int) T H => ∃ lo21 : Nat, ∃ lo22 : Nat, Has T [(4, (.msl 2 lo21 0 (List.length s.1))), (5, (.msl 2 lo22 0 (List.length s.2.1))), (6, (eInt .i64 s.2.2))] ∧ Owns ⟨H0, [], []⟩ H [(lo21, 2, List.map e_api_Jump s.1), (lo22, 2, List.map e_api_Jump s.2.1)]) hl0 ⟨lo21, lo22, .eq (by kernel_rfl), hO⟩ ?_
  clear hO
  rintro k0 s out1 T H ⟨lo21, lo22, hT, hO⟩ h1 ho0
  obtain ⟨all4, out5, i6⟩ := s
  replace h1 : step_Norm_l2 all4 out5 i6 = some out1 := h1
  dsimp only at hT
  refine C_has hT ?_
  clear hT
  unfold step_Norm_l2 at h1
  refine C_sq ?_
  refine S_al ttOk 4 [] [(20, (eBool (decide (i6 < ((List.length all4 : Nat) : Int)))))] ?_
  refine C_cd h1 (fun h1 => ?_) (fun h1 => ?_)
  · refine C_sk ?_
    refine E_tn [(4, (.msl 2 lo21 0 (List.length all4))), (5, (.msl 2 lo22 0 (List.length out5))), (6, (eInt .i64 i6))] ?_
    refine C_bk 1 ?_
    refine C_sq ?_
    refine C_rg ttOk 8 ?_
    obtain ⟨c24, h1⟩ := asrtE h1
    refine R_ps 4 [0 ≤ i6 ∧ i6 < ((List.length all4 : Nat) : Int)] ⟨c24, trivial⟩ ?_
    refine R_lO 0 lo21 2 (0 + Int.toNat i6) (e_api_Jump (List.getD all4 (Int.toNat i6) default)) (eInt .i64 ((List.getD all4 (Int.toNat i6) default).At)) (List.map e_api_Jump all4) hO (ownGet c24) ?_
    refine R_pu 6 ?_
    refine R_allocO 2 (e_api_Jump (api_Jump.mk 0 0)) (by kernel_rfl) (by kernel_rfl) hO ?_
    intro lo25 H hO
    refine R_sO 2 lo25 2 0 (e_api_Jump (api_Jump.mk 0 0)) (e_api_Jump (api_Jump.mk ((List.getD all4 (Int.toNat i6) default).At) 0)) [(e_api_Jump (api_Jump.mk 0 0))] [(lo21, 2, List.map e_api_Jump all4), (lo22, 2, List.map e_api_Jump out5), (lo25, 2, [(e_api_Jump (api_Jump.mk ((List.getD all4 (Int.toNat i6) default).At) 0))])] hO rfl (by kernel_rfl) ?_
    intro H hO
    refine R_en ?_
    refine E_ad [] [(7, (.lp lo25 0 0))] ?_
    refine C_sj (fun T H => ∃ all4 : List api_Jump, ∃ out5 : List api_Jump, ∃ i6 : Int, ∃ j7 : api_Jump, ∃ lo26 : Nat, ∃ lo27 : Nat, ∃ lo28 : Nat, Has T [(4, (.msl 2 lo26 0 (List.length all4))), (5, (.msl 2 lo27 0 (List.length out5))), (6, (eInt .i64 i6)), (7, (.lp lo28 0 0))] ∧ Owns ⟨H0, [], []⟩ H [(lo26, 2, List.map e_api_Jump all4), (lo27, 2, List.map e_api_Jump out5), (lo28, 2, [(e_api_Jump j7)])] ∧ step_Norm_j3 all4 out5 i6 j7 = some out1) ?_ ?_
    · clear hO h1
      rintro T H ⟨all4, out5, i6, j7, lo26, lo27, lo28, hT, hO, h1⟩
      refine C_has hT ?_
      clear hT
      unfold step_Norm_j3 at h1
      refine C_sq ?_
      refine C_rg ttOk 8 ?_
      refine R_pu 1 ?_
      refine R_lO 2 lo28 2 0 (e_api_Jump j7) (eInt .i64 j7.Net) [(e_api_Jump j7)] hO rfl ?_
      refine R_pu 5 ?_
      refine R_loadO [(55, true)] 2 lo28 2 0 (e_api_Jump j7) (eInt .i64 j7.At) [(e_api_Jump j7)] (by kernel_rfl) (by kernel_rfl) hO (by kernel_rfl) (!decide (j7.Net = (0 : Int))) (by kernel_rfl) (fun hb29 => rfl) ?_
      refine R_al ?_
      refine E_ad [] [(59, (eBool ((!decide (j7.Net = (0 : Int))) && (decide (j7.At < (1125899906842624 : Int))))))] ?_
      refine C_cd h1 (fun h1 => ?_) (fun h1 => ?_)
      · refine C_rg ttOk 5 ?_
        refine R_pu 1 ?_
        refine R_lO 2 lo28 2 0 (e_api_Jump j7) (e_api_Jump j7) [(e_api_Jump j7)] hO rfl ?_
        refine R_bsl (xs := [(e_api_Jump j7)]) (k := 2) (by kernel_rfl) (by kernel_rfl) ?_
        obtain ⟨c32, h1⟩ := asrtE h1
        refine R_appOL (e := e_api_Jump) out5 ([j7]) 1 lo27 2 16 (frozenOf [(e_api_Jump j7)]) (fun lo31 => [(lo26, 2, List.map e_api_Jump all4), (lo31, 2, List.map e_api_Jump (out5 ++ ([j7]))), (lo28, 2, [(e_api_Jump j7)])]) (by kernel_rfl) (by kernel_rfl) hO (by kernel_rfl) (by kernel_rfl) c32 (fun _ => by kernel_rfl) ?_
        intro lo31 H hO
        refine R_al ?_
        replace hO := hO.pick (L' := [(lo26, 2, List.map e_api_Jump all4), (lo31, 2, List.map e_api_Jump (out5 ++ ([j7])))]) [0, 1] (by decide) (by kernel_rfl)
        exact E_done (blockA_normal (thenA_normal (⟨rfl, (all4, out5 ++ ([j7]), i6), (Option.some.inj h1).symm, lo26, lo31, .eq (by kernel_rfl), hO⟩)))
      refine C_sk ?_
      replace hO := hO.pick (L' := [(lo26, 2, List.map e_api_Jump all4), (lo27, 2, List.map e_api_Jump out5)]) [0, 1] (by decide) (by kernel_rfl)
      exact E_done (blockA_normal (thenA_normal (⟨rfl, (all4, out5, i6), (Option.some.inj h1).symm, lo26, lo27, .eq (by kernel_rfl), hO⟩)))
    refine C_bk 2 ?_
    refine C_hk [(4, (.msl 2 lo21 0 (List.length all4))), (5, (.msl 2 lo22 0 (List.length out5))), (6, (eInt .i64 i6)), (7, (.lp lo25 0 0))] ?_
    refine C_cut (fun T H => ∃ all4 : List api_Jump, ∃ out5 : List api_Jump, ∃ i6 : Int, ∃ j7 : api_Jump, ∃ lo36 : Nat, ∃ lo37 : Nat, ∃ lo38 : Nat, Has T [(4, (.msl 2 lo36 0 (List.length all4))), (5, (.msl 2 lo37 0 (List.length out5))), (6, (eInt .i64 i6)), (7, (.lp lo38 0 0))] ∧ Owns ⟨H0, [], []⟩ H [(lo36, 2, List.map e_api_Jump all4), (lo37, 2, List.map e_api_Jump out5), (lo38, 2, [(e_api_Jump j7)])] ∧ step_Norm_h4 all4 out5 i6 j7 = some out1) ?_ ⟨all4, out5, i6, api_Jump.mk ((List.getD all4 (Int.toNat i6) default).At) 0, lo21, lo22, lo25, .eq (by kernel_rfl), hO, h1⟩
    clear hO h1
    rintro T H ⟨all4, out5, i6, j7, lo36, lo37, lo38, hT, hO, h1⟩
    refine C_has hT ?_
    clear hT
    unfold step_Norm_h4 at h1
    obtain ⟨rr1, hl1, h1⟩ := bindE h1
    refine C_loopS (by kernel_rfl) (fun (s : List api_Jump × List api_Jump × Int × api_Jump) T H => ∃ lo36 : Nat, ∃ lo37 : Nat, ∃ lo38 : Nat, Has T [(4, (.msl 2 lo36 0 (List.length s.1))), (5, (.msl 2 lo37 0 (List.length s.2.1))), (6, (eInt .i64 s.2.2.1)), (7, (.lp lo38 0 0))] ∧ Owns ⟨H0, [], []⟩ H [(lo36, 2, List.map e_api_Jump s.1), (lo37, 2, List.map e_api_Jump s.2.1), (lo38, 2, [(e_api_Jump s.2.2.2)])]) hl1 ⟨lo36, lo37, lo38, .eq (by kernel_rfl), hO⟩ ?_
    clear hO
    rintro k1 s out2 T H ⟨lo36, lo37, lo38, hT, hO⟩ h2 ho1
    obtain ⟨all4, out5, i6, j7⟩ := s
    replace h2 : step_Norm_l4 all4 out5 i6 j7 = some out2 := h2
    dsimp only at hT
    refine C_has hT ?_
    clear hT
    unfold step_Norm_l4 at h2
    refine C_sq ?_
    refine C_sq ?_
    obtain ⟨c39, h2⟩ := asrtE h2
    refine C_dg (plOf []) ttOk 14 ?_
    refine D_mono (K := fun T H => Has (lift T) [(4, (.msl 2 lo36 0 (List.length all4))), (5, (.msl 2 lo37 0 (List.length out5))), (6, (eInt .i64 i6)), (7, (.lp lo38 0 0)), (40, (eBool ((decide (i6 < ((List.length all4 : Nat) : Int))) && (decide (((List.getD all4 (Int.toNat i6) default).At) = j7.At)))))] ∧ Owns ⟨H0, [], []⟩ H [(lo36, 2, List.map e_api_Jump all4), (lo37, 2, List.map e_api_Jump out5), (lo38, 2, [(e_api_Jump j7)])]) ?_ ?_
    · refine D_pu 5 ?_
      refine D_split (t := 31) (e := decide (i6 < ((List.length all4 : Nat) : Int))) (by kernel_rfl) (fun hg40 => ?_) (fun hg40 => ?_)
      · refine D_ps 9 [0 ≤ i6 ∧ i6 < ((List.length all4 : Nat) : Int)] ⟨(c39 (by first | (simp only [hg40, Bool.not_true, Bool.not_false, Bool.true_and, Bool.and_true, Bool.false_and, Bool.and_false, Bool.or_true, Bool.true_or, Bool.or_false, Bool.false_or, cond_true, cond_false]; done) | simp [hg40])), trivial⟩ ?_
        refine D_loadV 0 lo36 2 (0 + Int.toNat i6) (e_api_Jump (List.getD all4 (Int.toNat i6) default)) (eInt .i64 ((List.getD all4 (Int.toNat i6) default).At)) (List.map e_api_Jump all4) (by kernel_rfl) (by kernel_rfl) (by kernel_rfl) hO (by kernel_rfl) (ownGet (c39 (by first | (simp only [hg40, Bool.not_true, Bool.not_false, Bool.true_and, Bool.and_true, Bool.false_and, Bool.and_false, Bool.or_true, Bool.true_or, Bool.or_false, Bool.false_or, cond_true, cond_false]; done) | simp [hg40]))) ?_
        refine D_pu 11 ?_
        refine D_loadV 2 lo38 2 0 (e_api_Jump j7) (eInt .i64 j7.At) [(e_api_Jump j7)] (by kernel_rfl) (by kernel_rfl) (by kernel_rfl) hO (by kernel_rfl) rfl ?_
        refine D_al ?_
        exact ⟨⟨[(4, (.msl 2 lo36 0 (List.length all4))), (5, (.msl 2 lo37 0 (List.length out5))), (6, (eInt .i64 i6)), (7, (.lp lo38 0 0)), (40, (eBool (decide (((List.getD all4 (Int.toNat i6) default).At) = j7.At))))], by kernel_rfl, rfl, ⟨SubV.refl _, SubV.refl _, SubV.refl _, SubV.refl _, SubV.eq (by first | (simp only [eBool, hg40, Bool.not_true, Bool.not_false, Bool.true_and, Bool.and_true, Bool.false_and, Bool.and_false, Bool.or_true, Bool.true_or, Bool.or_false, Bool.false_or, cond_true, cond_false]; done) | simp [eBool, hg40]), trivial⟩⟩, hO⟩
      refine D_al ?_
      exact ⟨⟨[(4, (.msl 2 lo36 0 (List.length all4))), (5, (.msl 2 lo37 0 (List.length out5))), (6, (eInt .i64 i6)), (7, (.lp lo38 0 0)), (40, (eBool false))], by kernel_rfl, rfl, ⟨SubV.refl _, SubV.refl _, SubV.refl _, SubV.refl _, SubV.eq (by first | (simp only [eBool, hg40, Bool.not_true, Bool.not_false, Bool.true_and, Bool.and_true, Bool.false_and, Bool.and_false, Bool.or_true, Bool.true_or, Bool.or_false, Bool.false_or, cond_true, cond_false]; done) | simp [eBool, hg40]), trivial⟩⟩, hO⟩
    · rintro T H ⟨hT, hO⟩
      refine E_has hT ?_
      clear hT
      refine E_done (thenA_normal ?_)
      refine C_cd h2 (fun h2 => ?_) (fun h2 => ?_)
      · refine C_sk ?_
        refine E_tn [(4, (.msl 2 lo36 0 (List.length all4))), (5, (.msl 2 lo37 0 (List.length out5))), (6, (eInt .i64 i6)), (7, (.lp lo38 0 0))] ?_
        refine C_sq ?_
        refine C_bk 3 ?_
        refine C_dg (plOf []) ttOk 10 ?_
        refine D_pu 1 ?_
        refine D_lO 2 lo38 2 0 (e_api_Jump j7) (eInt .i64 j7.Net) [(e_api_Jump j7)] hO rfl ?_
        obtain ⟨c42, h2⟩ := asrtE h2
        refine D_ps 6 [0 ≤ i6 ∧ i6 < ((List.length all4 : Nat) : Int)] ⟨c42, trivial⟩ ?_
        refine D_lO 0 lo36 2 (0 + Int.toNat i6) (e_api_Jump (List.getD all4 (Int.toNat i6) default)) (eInt .i64 ((List.getD all4 (Int.toNat i6) default).Net)) (List.map e_api_Jump all4) hO (ownGet c42) ?_
        refine D_pu 9 ?_
        refine D_sO 2 lo38 2 0 (e_api_Jump j7) (e_api_Jump (api_Jump.mk j7.At (IntKind.i64.wrap (j7.Net + ((List.getD all4 (Int.toNat i6) default).Net))))) [(e_api_Jump j7)] [(lo36, 2, List.map e_api_Jump all4), (lo37, 2, List.map e_api_Jump out5), (lo38, 2, [(e_api_Jump (api_Jump.mk j7.At (IntKind.i64.wrap (j7.Net + ((List.getD all4 (Int.toNat i6) default).Net)))))])] hO rfl (by kernel_rfl) ?_
        intro H hO
        refine D_end (by kernel_rfl) ?_
        refine E_hk [(4, (.msl 2 lo36 0 (List.length all4))), (5, (.msl 2 lo37 0 (List.length out5))), (6, (eInt .i64 i6)), (7, (.lp lo38 0 0))] ?_
        refine E_done (blockA_normal (thenA_normal (?_)))
        refine C_rg ttOk 3 ?_
        refine R_al ?_
        exact E_done (thenA_normal (⟨rfl, (all4, out5, IntKind.i64.wrap (i6 + (1 : Int)), api_Jump.mk j7.At (IntKind.i64.wrap (j7.Net + ((List.getD all4 (Int.toNat i6) default).Net)))), (Option.some.inj h2).symm, lo36, lo37, lo38, .eq (by kernel_rfl), hO⟩))
      refine C_ex 2 ?_
      obtain rfl := Option.some.inj h2
      obtain rfl : _ = rr1 := ho1
      replace h1 : step_Norm_j3 all4 out5 i6 j7 = some out1 := h1
      exact E_done (thenA_exit (thenA_exit (blockA_hit (thenA_normal (⟨rfl, all4, out5, i6, j7, lo36, lo37, lo38, .eq (by kernel_rfl), hO, h1⟩)))))
  refine C_ex 0 ?_
  replace hO := hO.pick (L' := [(lo22, 2, List.map e_api_Jump out5)]) [1] (by decide) (by kernel_rfl)
  obtain rfl := Option.some.inj h1
  obtain rfl : _ = rr0 := ho0
  replace h0 : step_Norm_j1 out5 = some r := h0
  exact E_done (thenA_exit (thenA_exit (blockA_hit (thenA_normal (⟨rfl, out5, lo22, .eq (by kernel_rfl), hO, h0⟩)))))

theorem w_edge_Norm_4 (f0 : (List api_Jump)) (r : ((List api_Jump) × Int)) (h0 : s_edge_Norm_4 f0 = some r) : Fine Try.prog 64 [(eL e_api_Jump f0)] (.tup [(eL e_api_Jump r.1), (eInt .i64 r.2)]) := by
  intro H0
  refine F_wk Try.func64 ?_
  have hO := Owns.start H0
  unfold s_edge_Norm_4 at h0
  refine S_al ttOk 2 [] [] ?_
  refine C_sq ?_
  refine C_rg ttOk 6 ?_
  refine R_pu 1 ?_
  obtain ⟨x1, hx2, h0⟩ := bindE h0
  refine R_cO 65 [(eL e_api_Jump f0)] (.tup [(eL e_api_Jump x1.1), (eInt .i64 x1.2)]) (w_step_Norm f0 _ hx2) hO ?_
  intro H hO
  refine R_al ?_
  refine E_tn [(2, (eL e_api_Jump x1.1)), (3, (eInt .i64 x1.2))] ?_
  refine C_rt ?_
  obtain rfl := Option.some.inj h0
  exact E_done (Q_ret (x := (.tup [(eL e_api_Jump x1.1), (eInt .i64 x1.2)])) (by kernel_rfl) (SubV.refl _) ⟨rfl, hO.out⟩)

theorem w_edge_Norm (l0 : (List api_Edge)) (r : ((List api_Edge) × Int)) (h0 : s_edge_Norm l0 = some r) : Fine Try.prog 23 [(eL e_api_Edge l0)] (.tup [(eL e_api_Edge r.1), (eInt .i64 r.2)]) := by
  intro H0
  refine F_wk Try.func23 ?_
  have hO := Owns.start H0
  unfold s_edge_Norm at h0
  refine S_al ttOk 2 [] [] ?_
  refine C_sq ?_
  refine C_sq ?_
  refine C_rg ttOk 2 ?_
  refine R_pu 1 ?_
  obtain ⟨x1, hx2, h0⟩ := bindE h0
  refine R_cO 53 [(eL e_api_Edge l0), (.fn (.func 54) [] [])] (eBool x1) (w_slices_ContainsFunc_api_Edge_api_Edge l0 54 [] [] (fun y0 => s_edge_Norm_1 y0) (fun y0 r h => w_edge_Norm_1 y0 r h) _ hx2) hO ?_
  intro H hO
  refine R_en ?_
  refine E_ad [] [(6, (eBool x1))] ?_
  refine C_cd h0 (fun h0 => ?_) (fun h0 => ?_)
  · refine S_tn ttOk 2 [(2, (.sl true 0 (fun _ => .bad))), (3, (eInt .i64 (2 : Int)))] ?_
    refine C_rt ?_
    refine E_has (l := [(2, (eL e_api_Edge ([]))), (3, (eInt .i64 (2 : Int)))]) ⟨[(2, (.sl true 0 (fun _ => .bad))), (3, (eInt .i64 (2 : Int)))], by kernel_rfl, rfl, ⟨subNilL, SubV.refl _, trivial⟩⟩ ?_
    obtain rfl := Option.some.inj h0
    exact E_done (thenA_ret (Q_ret (x := (.tup [(eL e_api_Edge ([])), (eInt .i64 (2 : Int))])) (by kernel_rfl) (SubV.refl _) ⟨rfl, hO.out⟩))
  refine C_sk ?_
  refine E_tn [(0, (eL e_api_Edge l0))] ?_
  refine C_sq ?_
  refine C_sq ?_
  refine C_rg ttOk 2 ?_
  refine R_pu 1 ?_
  obtain ⟨x5, hx6, h0⟩ := bindE h0
  refine R_cO 53 [(eL e_api_Edge l0), (.fn (.func 56) [] [])] (eBool x5) (w_slices_ContainsFunc_api_Edge_api_Edge l0 56 [] [] (fun y0 => s_edge_Norm_2 y0) (fun y0 r h => w_edge_Norm_2 y0 r h) _ hx6) hO ?_
  intro H hO
  refine R_en ?_
  refine E_ad [] [(8, (eBool x5))] ?_
  refine C_cd h0 (fun h0 => ?_) (fun h0 => ?_)
  · refine S_tn ttOk 2 [(2, (.sl true 0 (fun _ => .bad))), (3, (eInt .i64 (13 : Int)))] ?_
    refine C_rt ?_
    refine E_has (l := [(2, (eL e_api_Edge ([]))), (3, (eInt .i64 (13 : Int)))]) ⟨[(2, (.sl true 0 (fun _ => .bad))), (3, (eInt .i64 (13 : Int)))], by kernel_rfl, rfl, ⟨subNilL, SubV.refl _, trivial⟩⟩ ?_
    obtain rfl := Option.some.inj h0
    exact E_done (thenA_ret (Q_ret (x := (.tup [(eL e_api_Edge ([])), (eInt .i64 (13 : Int))])) (by kernel_rfl) (SubV.refl _) ⟨rfl, hO.out⟩))
  refine C_sk ?_
  refine E_tn [(0, (eL e_api_Edge l0))] ?_
  refine C_sq ?_
  refine C_rg ttOk 3 ?_
  refine R_pu 1 ?_
  obtain ⟨x9, hx10, h0⟩ := bindE h0
  refine R_callP (L' := fun lo11 => [(lo11, 3, List.map e_api_Edge x9)]) 3 (List.map e_api_Edge x9) 57 [(eL e_api_Edge l0)] (fun lo11 => (.msl 3 lo11 0 (List.length x9))) (by kernel_rfl) (by kernel_rfl) (w_slices_Clone_api_Edge_api_Edge l0 _ hx10) hO (fun _ => by kernel_rfl) ?_
  intro lo11 H hO
  refine R_al ?_
  refine E_tn [(4, (.msl 3 lo11 0 (List.length x9)))] ?_
  refine C_sq ?_
  refine C_rg ttOk 2 ?_
  refine R_pu 1 ?_
  obtain ⟨x12, hx13, h0⟩ := bindE h0
  refine R_callI (L' := [(lo11, 3, List.map e_api_Edge x12)]) 0 lo11 3 (List.map e_api_Edge x9) (List.map e_api_Edge x12) 58 [(.msl 3 lo11 0 (List.length x9)), (.fn (.func 59) [] [])] (.tup []) (by kernel_rfl) (by kernel_rfl) (w_slices_SortStableFunc_api_Edge_api_Edge lo11 x9 59 [] [] (fun y0 y1 => s_edge_Norm_3 y0 y1) (fun y0 y1 r h => w_edge_Norm_3 y0 y1 r h) _ hx13) hO (by kernel_rfl) (by kernel_rfl) ?_
  intro H hO hl14
  simp only [List.length_map] at hl14
  refine R_en ?_
  refine E_has (l := [(4, (.msl 3 lo11 0 (List.length x12)))]) ⟨[(4, (.msl 3 lo11 0 (List.length x9)))], by kernel_rfl, rfl, ⟨SubV.eq (by simp [hl14]), trivial⟩⟩ ?_
  refine E_done (thenA_normal (?_))
  refine C_sq ?_
  refine C_rg ttOk 6 ?_
  refine R_freezeO (e := e_api_Edge) x12 0 4 3 lo11 (List.length x12) [] (by kernel_rfl) hO (by kernel_rfl) (by kernel_rfl) (by kernel_rfl) (by kernel_rfl) ?_
  intro H hO
  refine R_pu 1 ?_
  obtain ⟨x15, hx16, h0⟩ := bindE h0
  refine R_cO 63 [(eL e_api_Edge x12), (.fn (.func 64) [] [])] (.tup [(eL e_api_Edge x15.1), (eInt .i64 x15.2)]) (w_edge_mapped x12 64 [] [] (fun y0 => s_edge_Norm_4 y0) (fun y0 r h => w_edge_Norm_4 y0 r h) _ hx16) hO ?_
  intro H hO
  refine R_al ?_
  refine E_tn [(2, (eL e_api_Edge x15.1)), (3, (eInt .i64 x15.2))] ?_
  refine C_rt ?_
  obtain rfl := Option.some.inj h0
  exact E_done (Q_ret (x := (.tup [(eL e_api_Edge x15.1), (eInt .i64 x15.2)])) (by kernel_rfl) (SubV.refl _) ⟨rfl, hO.out⟩)

theorem w_ref05_May (v0 : api_Value) (r : Bool) (h0 : s_ref05_May v0 = some r) : Fine Try.prog 76 [(e_api_Value v0)] (eBool r) := by
  intro H0
  refine F_wk Try.func76 ?_
  have hO := Owns.start H0
  unfold s_ref05_May at h0
  refine C_sq ?_
  refine C_rg ttOk 2 ?_
  refine R_boxF 3 (e_api_Value v0) (by kernel_rfl) (by kernel_rfl) ?_
  refine R_al ?_
  refine E_tn [(1, (.rp (e_api_Value v0)))] ?_
  refine C_sq ?_
  refine S_al ttOk 3 [] [(5, (eBool (decide (v0.Kind = (1 : Int)))))] ?_
  refine C_cd h0 (fun h0 => ?_) (fun h0 => ?_)
  · refine S_tn ttOk 4 [(2, (eBool (strEq v0.Text (⟨#[]⟩ : ByteArray))))] ?_
    refine C_rt ?_
    obtain rfl := Option.some.inj h0
    exact E_done (thenA_ret (Q_ret (x := (eBool (strEq v0.Text (⟨#[]⟩ : ByteArray)))) (by kernel_rfl) (SubV.refl _) ⟨rfl, hO.out⟩))
  refine C_sk ?_
  refine E_tn [(1, (.rp (e_api_Value v0)))] ?_
  refine S_tn ttOk 15 [(2, (eBool (((decide (v0.Kind = (2 : Int))) && (decide (v0.Num = (0 : Int)))) && (decide (((ByteArray.size v0.Text : Nat) : Int) ≤ (64 : Int))))))] ?_
  refine C_rt ?_
  obtain rfl := Option.some.inj h0
  exact E_done (Q_ret (x := (eBool (((decide (v0.Kind = (2 : Int))) && (decide (v0.Num = (0 : Int)))) && (decide (((ByteArray.size v0.Text : Nat) : Int) ≤ (64 : Int)))))) (by kernel_rfl) (SubV.refl _) ⟨rfl, hO.out⟩)

theorem w_ref06_May (r0 : (List api_Value)) (r : Bool) (h0 : s_ref06_May r0 = some r) : Fine Try.prog 32 [(eL e_api_Value r0)] (eBool r) := by
  intro H0
  refine F_wk Try.func32 ?_
  have hO := Owns.start H0
  unfold s_ref06_May at h0
  refine S_al ttOk 1 [] [] ?_
  refine C_sj (fun T H => Has T [(0, (eL e_api_Value r0))] ∧ Owns ⟨H0, [], []⟩ H [] ∧ ref06_May_j1 r0 = some r) ?_ ?_
  · clear hO h0
    rintro T H ⟨hT, hO, h0⟩
    refine C_has hT ?_
    clear hT
    unfold ref06_May_j1 at h0
    refine S_tn ttOk 4 [(2, (eBool (decide (((List.length r0 : Nat) : Int) ≤ (8 : Int)))))] ?_
    refine C_rt ?_
    obtain rfl := Option.some.inj h0
    exact E_done (Q_ret (x := (eBool (decide (((List.length r0 : Nat) : Int) ≤ (8 : Int))))) (by kernel_rfl) (SubV.refl _) ⟨rfl, hO.out⟩)
  refine S_al ttOk 1 [] [(3, (eInt .i64 (0 : Int)))] ?_
  refine C_bk 0 ?_
  refine C_hk [(0, (eL e_api_Value r0)), (3, (eInt .i64 (0 : Int)))] ?_
  refine C_cut (fun T H => ∃ i3 : Int, Has T [(0, (eL e_api_Value r0)), (3, (eInt .i64 i3))] ∧ Owns ⟨H0, [], []⟩ H [] ∧ ref06_May_h2 r0 i3 = some r) ?_ ⟨(0 : Int), .eq (by kernel_rfl), hO, h0⟩
  clear hO h0
  rintro T H ⟨i3, hT, hO, h0⟩
  refine C_has hT ?_
  clear hT
  unfold ref06_May_h2 at h0
  obtain ⟨rr0, hl0, h0⟩ := bindE h0
  refine C_loopS (by kernel_rfl) (fun (s : Int) T H => Has T [(0, (eL e_api_Value r0)), (3, (eInt .i64 s))] ∧ Owns ⟨H0, [], []⟩ H []) hl0 ⟨.eq (by kernel_rfl), hO⟩ ?_
  clear hO
  rintro k0 s out1 T H ⟨hT, hO⟩ h1 ho0
  obtain ⟨i3, rfl⟩ : ∃ x, x = s := ⟨_, rfl⟩
  replace h1 : ref06_May_l2 r0 i3 = some out1 := h1
  refine C_has hT ?_
  clear hT
  unfold ref06_May_l2 at h1
  refine C_sq ?_
  refine S_al ttOk 8 [] [(11, (eBool ((decide (i3 < ((List.length r0 : Nat) : Int))) && (decide (i3 < (9 : Int))))))] ?_
  refine C_cd h1 (fun h1 => ?_) (fun h1 => ?_)
  · refine C_sk ?_
    refine E_tn [(0, (eL e_api_Value r0)), (3, (eInt .i64 i3))] ?_
    refine C_sq ?_
    refine C_bk 1 ?_
    refine C_sq ?_
    refine C_rg ttOk 6 ?_
    obtain ⟨c2, h1⟩ := asrtE h1
    refine R_ps 4 [0 ≤ i3 ∧ i3 < ((List.length r0 : Nat) : Int)] ⟨c2, trivial⟩ ?_
    obtain ⟨x3, hx4, h1⟩ := bindE h1
    refine R_cO 76 [(e_api_Value (List.getD r0 (Int.toNat i3) default))] (eBool x3) (w_ref05_May (List.getD r0 (Int.toNat i3) default) _ hx4) hO ?_
    intro H hO
    refine R_al ?_
    refine E_ad [] [(19, (eBool (!x3)))] ?_
    refine C_cd h1 (fun h1 => ?_) (fun h1 => ?_)
    · refine S_tn ttOk 1 [(2, (eBool false))] ?_
      refine C_rt ?_
      obtain rfl := Option.some.inj h1
      obtain rfl : _ = rr0 := ho0
      replace h0 : some false = some r := h0
      obtain rfl := Option.some.inj h0
      exact E_done (blockA_ret (thenA_ret (thenA_ret (blockA_ret (thenA_ret (Q_ret (x := (eBool false)) (by kernel_rfl) (SubV.refl _) ⟨rfl, hO.out⟩))))))
    refine C_sk ?_
    refine E_hk [(0, (eL e_api_Value r0)), (3, (eInt .i64 i3))] ?_
    refine E_done (blockA_normal (thenA_normal (?_)))
    refine C_rg ttOk 3 ?_
    refine R_al ?_
    exact E_done (thenA_normal (⟨rfl, IntKind.i64.wrap (i3 + (1 : Int)), (Option.some.inj h1).symm, .eq (by kernel_rfl), hO⟩))
  refine C_ex 0 ?_
  obtain rfl := Option.some.inj h1
  obtain rfl : _ = rr0 := ho0
  replace h0 : ref06_May_j1 r0 = some r := h0
  exact E_done (thenA_exit (thenA_exit (blockA_hit (thenA_normal (⟨rfl, .eq (by kernel_rfl), hO, h0⟩)))))

theorem w_ref09_May (f0 : (List api_Jump)) (r : Bool) (h0 : s_ref09_May f0 = some r) : Fine Try.prog 33 [(eL e_api_Jump f0)] (eBool r) := by
  intro H0
  refine F_wk Try.func33 ?_
  have hO := Owns.start H0
  unfold s_ref09_May at h0
  refine S_al ttOk 1 [] [] ?_
  refine C_sq ?_
  refine S_al ttOk 3 [] [(6, (eBool (decide ((1024 : Int) < ((List.length f0 : Nat) : Int)))))] ?_
  refine C_cd h0 (fun h0 => ?_) (fun h0 => ?_)
  · refine S_tn ttOk 1 [(2, (eBool false))] ?_
    refine C_rt ?_
    obtain rfl := Option.some.inj h0
    exact E_done (thenA_ret (Q_ret (x := (eBool false)) (by kernel_rfl) (SubV.refl _) ⟨rfl, hO.out⟩))
  refine C_sk ?_
  refine E_tn [(0, (eL e_api_Jump f0))] ?_
  refine C_sj (fun T H => Has T [] ∧ Owns ⟨H0, [], []⟩ H [] ∧ ref09_May_j1  = some r) ?_ ?_
  · clear hO h0
    rintro T H ⟨hT, hO, h0⟩
    refine C_has hT ?_
    clear hT
    unfold ref09_May_j1 at h0
    refine S_tn ttOk 1 [(2, (eBool true))] ?_
    refine C_rt ?_
    obtain rfl := Option.some.inj h0
    exact E_done (Q_ret (x := (eBool true)) (by kernel_rfl) (SubV.refl _) ⟨rfl, hO.out⟩)
  refine S_al ttOk 1 [] [(3, (eInt .i64 (0 : Int)))] ?_
  refine C_bk 0 ?_
  refine C_hk [(0, (eL e_api_Jump f0)), (3, (eInt .i64 (0 : Int)))] ?_
  refine C_cut (fun T H => ∃ i3 : Int, Has T [(0, (eL e_api_Jump f0)), (3, (eInt .i64 i3))] ∧ Owns ⟨H0, [], []⟩ H [] ∧ ref09_May_h2 f0 i3 = some r) ?_ ⟨(0 : Int), .eq (by kernel_rfl), hO, h0⟩
  clear hO h0
  rintro T H ⟨i3, hT, hO, h0⟩
  refine C_has hT ?_
  clear hT
  unfold ref09_May_h2 at h0
  obtain ⟨rr0, hl0, h0⟩ := bindE h0
  refine C_loopS (by kernel_rfl) (fun (s : Int) T H => Has T [(0, (eL e_api_Jump f0)), (3, (eInt .i64 s))] ∧ Owns ⟨H0, [], []⟩ H []) hl0 ⟨.eq (by kernel_rfl), hO⟩ ?_
  clear hO
  rintro k0 s out1 T H ⟨hT, hO⟩ h1 ho0
  obtain ⟨i3, rfl⟩ : ∃ x, x = s := ⟨_, rfl⟩
  replace h1 : ref09_May_l2 f0 i3 = some out1 := h1
  refine C_has hT ?_
  clear hT
  unfold ref09_May_l2 at h1
  refine C_sq ?_
  refine S_al ttOk 4 [] [(10, (eBool (decide (i3 < ((List.length f0 : Nat) : Int)))))] ?_
  refine C_cd h1 (fun h1 => ?_) (fun h1 => ?_)
  · refine C_sk ?_
    refine E_tn [(0, (eL e_api_Jump f0)), (3, (eInt .i64 i3))] ?_
    refine C_sq ?_
    refine C_bk 1 ?_
    refine C_sq ?_
    refine C_sq ?_
    refine C_rg ttOk 38 ?_
    obtain ⟨c3, h1⟩ := asrtE h1
    obtain ⟨c4, h1⟩ := asrtE h1
    obtain ⟨c5, h1⟩ := asrtE h1
    obtain ⟨c6, h1⟩ := asrtE h1
    obtain ⟨c7, h1⟩ := asrtE h1
    refine R_as [0 ≤ i3 ∧ i3 < ((List.length f0 : Nat) : Int), (((!(decide (((List.getD f0 (Int.toNat i3) default).At) < (-1 : Int))))) = true → 0 ≤ i3 ∧ i3 < ((List.length f0 : Nat) : Int)), (((!((decide (((List.getD f0 (Int.toNat i3) default).At) < (-1 : Int))) || (decide ((1125899906842624 : Int) ≤ ((List.getD f0 (Int.toNat i3) default).At)))))) = true → 0 ≤ i3 ∧ i3 < ((List.length f0 : Nat) : Int)), (((!(((decide (((List.getD f0 (Int.toNat i3) default).At) < (-1 : Int))) || (decide ((1125899906842624 : Int) ≤ ((List.getD f0 (Int.toNat i3) default).At)))) || (decide (((List.getD f0 (Int.toNat i3) default).Net) = (0 : Int)))))) = true → 0 ≤ i3 ∧ i3 < ((List.length f0 : Nat) : Int)), (((!((((decide (((List.getD f0 (Int.toNat i3) default).At) < (-1 : Int))) || (decide ((1125899906842624 : Int) ≤ ((List.getD f0 (Int.toNat i3) default).At)))) || (decide (((List.getD f0 (Int.toNat i3) default).Net) = (0 : Int)))) || (decide ((1048576 : Int) < ((List.getD f0 (Int.toNat i3) default).Net)))))) = true → 0 ≤ i3 ∧ i3 < ((List.length f0 : Nat) : Int))] ⟨c3, c4, c5, c6, c7, trivial⟩ ?_
    refine E_ad [] [(50, (eBool (((((decide (((List.getD f0 (Int.toNat i3) default).At) < (-1 : Int))) || (decide ((1125899906842624 : Int) ≤ ((List.getD f0 (Int.toNat i3) default).At)))) || (decide (((List.getD f0 (Int.toNat i3) default).Net) = (0 : Int)))) || (decide ((1048576 : Int) < ((List.getD f0 (Int.toNat i3) default).Net)))) || (decide (((List.getD f0 (Int.toNat i3) default).Net) < (-1048576 : Int))))))] ?_
    refine C_cd h1 (fun h1 => ?_) (fun h1 => ?_)
    · refine S_tn ttOk 1 [(2, (eBool false))] ?_
      refine C_rt ?_
      obtain rfl := Option.some.inj h1
      obtain rfl : _ = rr0 := ho0
      replace h0 : some false = some r := h0
      obtain rfl := Option.some.inj h0
      exact E_done (thenA_ret (blockA_ret (thenA_ret (thenA_ret (blockA_ret (thenA_ret (Q_ret (x := (eBool false)) (by kernel_rfl) (SubV.refl _) ⟨rfl, hO.out⟩)))))))
    refine C_sk ?_
    refine E_tn [(0, (eL e_api_Jump f0)), (3, (eInt .i64 i3))] ?_
    refine C_sq ?_
    obtain ⟨c9, h1⟩ := asrtE h1
    obtain ⟨c10, h1⟩ := asrtE h1
    refine C_dg (plOf [58, 64]) ttOk 16 ?_
    refine D_mono (K := fun T H => Has (lift T) [(0, (eL e_api_Jump f0)), (3, (eInt .i64 i3)), (66, (eBool ((decide ((0 : Int) < i3)) && (decide (((List.getD f0 (Int.toNat i3) default).At) ≤ ((List.getD f0 (Int.toNat (IntKind.i64.wrap (i3 - (1 : Int)))) default).At))))))] ∧ Owns ⟨H0, [], []⟩ H []) ?_ ?_
    · refine D_pu 3 ?_
      refine D_split (t := 53) (e := decide ((0 : Int) < i3)) (by kernel_rfl) (fun hg11 => ?_) (fun hg11 => ?_)
      · refine D_all (Ds := [0 ≤ i3 ∧ i3 < ((List.length f0 : Nat) : Int), 0 ≤ (IntKind.i64.wrap (i3 - (1 : Int))) ∧ (IntKind.i64.wrap (i3 - (1 : Int))) < ((List.length f0 : Nat) : Int)]) (by kernel_rfl) ⟨(c9 (by first | (simp only [hg11, Bool.not_true, Bool.not_false, Bool.true_and, Bool.and_true, Bool.false_and, Bool.and_false, Bool.or_true, Bool.true_or, Bool.or_false, Bool.false_or, cond_true, cond_false]; done) | simp [hg11])), (c10 (by first | (simp only [hg11, Bool.not_true, Bool.not_false, Bool.true_and, Bool.and_true, Bool.false_and, Bool.and_false, Bool.or_true, Bool.true_or, Bool.or_false, Bool.false_or, cond_true, cond_false]; done) | simp [hg11])), trivial⟩ ?_
        exact ⟨⟨[(0, (eL e_api_Jump f0)), (3, (eInt .i64 i3)), (66, (eBool (decide (((List.getD f0 (Int.toNat i3) default).At) ≤ ((List.getD f0 (Int.toNat (IntKind.i64.wrap (i3 - (1 : Int)))) default).At)))))], by kernel_rfl, rfl, ⟨SubV.refl _, SubV.refl _, SubV.eq (by first | (simp only [eBool, hg11, Bool.not_true, Bool.not_false, Bool.true_and, Bool.and_true, Bool.false_and, Bool.and_false, Bool.or_true, Bool.true_or, Bool.or_false, Bool.false_or, cond_true, cond_false]; done) | simp [eBool, hg11]), trivial⟩⟩, hO⟩
      refine D_al ?_
      exact ⟨⟨[(0, (eL e_api_Jump f0)), (3, (eInt .i64 i3)), (66, (eBool false))], by kernel_rfl, rfl, ⟨SubV.refl _, SubV.refl _, SubV.eq (by first | (simp only [eBool, hg11, Bool.not_true, Bool.not_false, Bool.true_and, Bool.and_true, Bool.false_and, Bool.and_false, Bool.or_true, Bool.true_or, Bool.or_false, Bool.false_or, cond_true, cond_false]; done) | simp [eBool, hg11]), trivial⟩⟩, hO⟩
    · rintro T H ⟨hT, hO⟩
      refine E_has hT ?_
      clear hT
      refine E_done (thenA_normal ?_)
      refine C_cd h1 (fun h1 => ?_) (fun h1 => ?_)
      · refine S_tn ttOk 1 [(2, (eBool false))] ?_
        refine C_rt ?_
        obtain rfl := Option.some.inj h1
        obtain rfl : _ = rr0 := ho0
        replace h0 : some false = some r := h0
        obtain rfl := Option.some.inj h0
        exact E_done (blockA_ret (thenA_ret (thenA_ret (blockA_ret (thenA_ret (Q_ret (x := (eBool false)) (by kernel_rfl) (SubV.refl _) ⟨rfl, hO.out⟩))))))
      refine C_sk ?_
      refine E_hk [(0, (eL e_api_Jump f0)), (3, (eInt .i64 i3))] ?_
      refine E_done (blockA_normal (thenA_normal (?_)))
      refine C_rg ttOk 3 ?_
      refine R_al ?_
      exact E_done (thenA_normal (⟨rfl, IntKind.i64.wrap (i3 + (1 : Int)), (Option.some.inj h1).symm, .eq (by kernel_rfl), hO⟩))
  refine C_ex 0 ?_
  obtain rfl := Option.some.inj h1
  obtain rfl : _ = rr0 := ho0
  replace h0 : ref09_May_j1  = some r := h0
  exact E_done (thenA_exit (thenA_exit (blockA_hit (thenA_normal (⟨rfl, .eq (by kernel_rfl), hO, h0⟩)))))

theorem w_ref05_Compare (a0 : api_Value) (b1 : api_Value) (r : Int) (h0 : s_ref05_Compare a0 b1 = some r) : Fine Try.prog 103 [(e_api_Value a0), (e_api_Value b1)] (eInt .i64 r) := by
  intro H0
  refine F_wk Try.func103 ?_
  have hO := Owns.start H0
  unfold s_ref05_Compare at h0
  refine C_sq ?_
  refine C_rg ttOk 3 ?_
  refine R_boxF 3 (e_api_Value a0) (by kernel_rfl) (by kernel_rfl) ?_
  refine R_boxF 3 (e_api_Value b1) (by kernel_rfl) (by kernel_rfl) ?_
  refine R_al ?_
  refine E_tn [(2, (.rp (e_api_Value a0))), (3, (.rp (e_api_Value b1)))] ?_
  refine C_sq ?_
  refine C_sq ?_
  refine C_rg ttOk 8 ?_
  refine R_pu 1 ?_
  obtain ⟨x1, hx2, h0⟩ := bindE h0
  refine R_cO 76 [(e_api_Value a0)] (eBool x1) (w_ref05_May a0 _ hx2) hO ?_
  intro H hO
  refine R_pu 5 ?_
  obtain ⟨x4, hx5, h0⟩ := bindE h0
  refine R_callO [(9, false)] 76 [(e_api_Value b1)] (eBool x4) (!(!x1)) (by kernel_rfl) (by kernel_rfl) (by kernel_rfl) (fun hb6 => (w_ref05_May b1 _ (gcallE hx5 hb6))) hO ?_
  intro H hO
  refine R_al ?_
  refine E_ad [] [(13, (eBool ((!x1) || (!x4))))] ?_
  refine C_cd h0 (fun h0 => ?_) (fun h0 => ?_)
  · refine S_tn ttOk 1 [(4, (eInt .i64 (0 : Int)))] ?_
    refine C_rt ?_
    obtain rfl := Option.some.inj h0
    exact E_done (thenA_ret (Q_ret (x := (eInt .i64 (0 : Int))) (by kernel_rfl) (SubV.refl _) ⟨rfl, hO.out⟩))
  refine C_sk ?_
  refine E_tn [(2, (.rp (e_api_Value a0))), (3, (.rp (e_api_Value b1)))] ?_
  refine C_sq ?_
  refine S_al ttOk 5 [] [(18, (eBool (!decide (a0.Kind = b1.Kind))))] ?_
  refine C_cd h0 (fun h0 => ?_) (fun h0 => ?_)
  · refine C_sq ?_
    refine S_tn ttOk 3 [(21, (eBool (decide (a0.Kind = (1 : Int)))))] ?_
    refine C_cd h0 (fun h0 => ?_) (fun h0 => ?_)
    · refine S_tn ttOk 1 [(4, (eInt .i64 (-1 : Int)))] ?_
      refine C_rt ?_
      obtain rfl := Option.some.inj h0
      exact E_done (thenA_ret (thenA_ret (Q_ret (x := (eInt .i64 (-1 : Int))) (by kernel_rfl) (SubV.refl _) ⟨rfl, hO.out⟩)))
    refine C_sk ?_
    refine E_tn [] ?_
    refine S_tn ttOk 1 [(4, (eInt .i64 (1 : Int)))] ?_
    refine C_rt ?_
    obtain rfl := Option.some.inj h0
    exact E_done (thenA_ret (Q_ret (x := (eInt .i64 (1 : Int))) (by kernel_rfl) (SubV.refl _) ⟨rfl, hO.out⟩))
  refine C_sk ?_
  refine E_tn [(2, (.rp (e_api_Value a0))), (3, (.rp (e_api_Value b1)))] ?_
  refine C_sq ?_
  refine S_al ttOk 5 [] [(26, (eBool (!decide (a0.Num = b1.Num))))] ?_
  refine C_cd h0 (fun h0 => ?_) (fun h0 => ?_)
  · refine C_sq ?_
    refine S_tn ttOk 5 [(31, (eBool (decide (a0.Num < b1.Num))))] ?_
    refine C_cd h0 (fun h0 => ?_) (fun h0 => ?_)
    · refine S_tn ttOk 1 [(4, (eInt .i64 (-1 : Int)))] ?_
      refine C_rt ?_
      obtain rfl := Option.some.inj h0
      exact E_done (thenA_ret (thenA_ret (Q_ret (x := (eInt .i64 (-1 : Int))) (by kernel_rfl) (SubV.refl _) ⟨rfl, hO.out⟩)))
    refine C_sk ?_
    refine E_tn [] ?_
    refine S_tn ttOk 1 [(4, (eInt .i64 (1 : Int)))] ?_
    refine C_rt ?_
    obtain rfl := Option.some.inj h0
    exact E_done (thenA_ret (Q_ret (x := (eInt .i64 (1 : Int))) (by kernel_rfl) (SubV.refl _) ⟨rfl, hO.out⟩))
  refine C_sk ?_
  refine E_tn [(2, (.rp (e_api_Value a0))), (3, (.rp (e_api_Value b1)))] ?_
  refine C_sj (fun T H => ∃ a2 : api_Value, ∃ b3 : api_Value, Has T [(2, (.rp (e_api_Value a2))), (3, (.rp (e_api_Value b3)))] ∧ Owns ⟨H0, [], []⟩ H [] ∧ ref05_Compare_j1 a2 b3 = some r) ?_ ?_
  · clear hO h0
    rintro T H ⟨a2, b3, hT, hO, h0⟩
    refine C_has hT ?_
    clear hT
    unfold ref05_Compare_j1 at h0
    refine C_sq ?_
    refine S_al ttOk 7 [] [(70, (eBool (!decide (((ByteArray.size a2.Text : Nat) : Int) = ((ByteArray.size b3.Text : Nat) : Int)))))] ?_
    refine C_cd h0 (fun h0 => ?_) (fun h0 => ?_)
    · refine C_sq ?_
      refine S_tn ttOk 7 [(77, (eBool (decide (((ByteArray.size a2.Text : Nat) : Int) < ((ByteArray.size b3.Text : Nat) : Int)))))] ?_
      refine C_cd h0 (fun h0 => ?_) (fun h0 => ?_)
      · refine S_tn ttOk 1 [(4, (eInt .i64 (-1 : Int)))] ?_
        refine C_rt ?_
        obtain rfl := Option.some.inj h0
        exact E_done (thenA_ret (thenA_ret (Q_ret (x := (eInt .i64 (-1 : Int))) (by kernel_rfl) (SubV.refl _) ⟨rfl, hO.out⟩)))
      refine C_sk ?_
      refine E_tn [] ?_
      refine S_tn ttOk 1 [(4, (eInt .i64 (1 : Int)))] ?_
      refine C_rt ?_
      obtain rfl := Option.some.inj h0
      exact E_done (thenA_ret (Q_ret (x := (eInt .i64 (1 : Int))) (by kernel_rfl) (SubV.refl _) ⟨rfl, hO.out⟩))
    refine C_sk ?_
    refine E_tn [] ?_
    refine S_tn ttOk 1 [(4, (eInt .i64 (0 : Int)))] ?_
    refine C_rt ?_
    obtain rfl := Option.some.inj h0
    exact E_done (Q_ret (x := (eInt .i64 (0 : Int))) (by kernel_rfl) (SubV.refl _) ⟨rfl, hO.out⟩)
  refine S_al ttOk 1 [] [(5, (eInt .i64 (0 : Int)))] ?_
  refine C_bk 0 ?_
  refine C_hk [(2, (.rp (e_api_Value a0))), (3, (.rp (e_api_Value b1))), (5, (eInt .i64 (0 : Int)))] ?_
  refine C_cut (fun T H => ∃ a2 : api_Value, ∃ b3 : api_Value, ∃ i5 : Int, Has T [(2, (.rp (e_api_Value a2))), (3, (.rp (e_api_Value b3))), (5, (eInt .i64 i5))] ∧ Owns ⟨H0, [], []⟩ H [] ∧ ref05_Compare_h2 a2 b3 i5 = some r) ?_ ⟨a0, b1, (0 : Int), .eq (by kernel_rfl), hO, h0⟩
  clear hO h0
  rintro T H ⟨a2, b3, i5, hT, hO, h0⟩
  refine C_has hT ?_
  clear hT
  unfold ref05_Compare_h2 at h0
  obtain ⟨rr0, hl0, h0⟩ := bindE h0
  refine C_loopS (by kernel_rfl) (fun (s : Int) T H => Has T [(2, (.rp (e_api_Value a2))), (3, (.rp (e_api_Value b3))), (5, (eInt .i64 s))] ∧ Owns ⟨H0, [], []⟩ H []) hl0 ⟨.eq (by kernel_rfl), hO⟩ ?_
  clear hO
  rintro k0 s out1 T H ⟨hT, hO⟩ h1 ho0
  obtain ⟨i5, rfl⟩ : ∃ x, x = s := ⟨_, rfl⟩
  replace h1 : ref05_Compare_l2 a2 b3 i5 = some out1 := h1
  refine C_has hT ?_
  clear hT
  unfold ref05_Compare_l2 at h1
  refine C_sq ?_
  refine S_al ttOk 12 [] [(43, (eBool ((decide (i5 < ((ByteArray.size a2.Text : Nat) : Int))) && (decide (i5 < ((ByteArray.size b3.Text : Nat) : Int))))))] ?_
  refine C_cd h1 (fun h1 => ?_) (fun h1 => ?_)
  · refine C_sk ?_
    refine E_tn [(2, (.rp (e_api_Value a2))), (3, (.rp (e_api_Value b3))), (5, (eInt .i64 i5))] ?_
    refine C_sq ?_
    refine C_bk 1 ?_
    refine C_sq ?_
    refine C_dg (plOf [47, 51]) ttOk 9 ?_
    obtain ⟨c15, h1⟩ := asrtE h1
    obtain ⟨c16, h1⟩ := asrtE h1
    refine D_all (Ds := [0 ≤ i5 ∧ i5 < ((ByteArray.size a2.Text : Nat) : Int), 0 ≤ i5 ∧ i5 < ((ByteArray.size b3.Text : Nat) : Int)]) (by kernel_rfl) ⟨c15, c16, trivial⟩ ?_
    refine E_ad [] [(54, (eBool (!decide ((bt a2.Text i5) = (bt b3.Text i5)))))] ?_
    refine C_cd h1 (fun h1 => ?_) (fun h1 => ?_)
    · refine C_sq ?_
      refine C_sq ?_
      refine C_dg (plOf [56, 60]) ttOk 9 ?_
      obtain ⟨c18, h1⟩ := asrtE h1
      obtain ⟨c19, h1⟩ := asrtE h1
      refine D_all (Ds := [0 ≤ i5 ∧ i5 < ((ByteArray.size a2.Text : Nat) : Int), 0 ≤ i5 ∧ i5 < ((ByteArray.size b3.Text : Nat) : Int)]) (by kernel_rfl) ⟨c18, c19, trivial⟩ ?_
      refine E_tn [(63, (eBool (decide ((bt a2.Text i5) < (bt b3.Text i5)))))] ?_
      refine C_cd h1 (fun h1 => ?_) (fun h1 => ?_)
      · refine S_tn ttOk 1 [(4, (eInt .i64 (-1 : Int)))] ?_
        refine C_rt ?_
        obtain rfl := Option.some.inj h1
        obtain rfl : _ = rr0 := ho0
        replace h0 : some (-1 : Int) = some r := h0
        obtain rfl := Option.some.inj h0
        exact E_done (thenA_ret (blockA_ret (thenA_ret (thenA_ret (blockA_ret (thenA_ret (Q_ret (x := (eInt .i64 (-1 : Int))) (by kernel_rfl) (SubV.refl _) ⟨rfl, hO.out⟩)))))))
      refine C_sk ?_
      refine E_tn [] ?_
      refine S_tn ttOk 1 [(4, (eInt .i64 (1 : Int)))] ?_
      refine C_rt ?_
      obtain rfl := Option.some.inj h1
      obtain rfl : _ = rr0 := ho0
      replace h0 : some (1 : Int) = some r := h0
      obtain rfl := Option.some.inj h0
      exact E_done (blockA_ret (thenA_ret (thenA_ret (blockA_ret (thenA_ret (Q_ret (x := (eInt .i64 (1 : Int))) (by kernel_rfl) (SubV.refl _) ⟨rfl, hO.out⟩))))))
    refine C_sk ?_
    refine E_hk [(2, (.rp (e_api_Value a2))), (3, (.rp (e_api_Value b3))), (5, (eInt .i64 i5))] ?_
    refine E_done (blockA_normal (thenA_normal (?_)))
    refine C_rg ttOk 3 ?_
    refine R_al ?_
    exact E_done (thenA_normal (⟨rfl, IntKind.i64.wrap (i5 + (1 : Int)), (Option.some.inj h1).symm, .eq (by kernel_rfl), hO⟩))
  refine C_ex 0 ?_
  obtain rfl := Option.some.inj h1
  obtain rfl : _ = rr0 := ho0
  replace h0 : ref05_Compare_j1 a2 b3 = some r := h0
  exact E_done (thenA_exit (thenA_exit (blockA_hit (thenA_normal (⟨rfl, a2, b3, .eq (by kernel_rfl), hO, h0⟩)))))

theorem w_ref06_Compare (a0 : (List api_Value)) (b1 : (List api_Value)) (r : Int) (h0 : s_ref06_Compare a0 b1 = some r) : Fine Try.prog 68 [(eL e_api_Value a0), (eL e_api_Value b1)] (eInt .i64 r) := by
  intro H0
  refine F_wk Try.func68 ?_
  have hO := Owns.start H0
  unfold s_ref06_Compare at h0
  refine S_al ttOk 1 [] [] ?_
  refine C_sq ?_
  refine C_sq ?_
  refine C_rg ttOk 8 ?_
  refine R_pu 1 ?_
  obtain ⟨x1, hx2, h0⟩ := bindE h0
  refine R_cO 32 [(eL e_api_Value a0)] (eBool x1) (w_ref06_May a0 _ hx2) hO ?_
  intro H hO
  refine R_pu 5 ?_
  obtain ⟨x4, hx5, h0⟩ := bindE h0
  refine R_callO [(10, false)] 32 [(eL e_api_Value b1)] (eBool x4) (!(!x1)) (by kernel_rfl) (by kernel_rfl) (by kernel_rfl) (fun hb6 => (w_ref06_May b1 _ (gcallE hx5 hb6))) hO ?_
  intro H hO
  refine R_al ?_
  refine E_ad [] [(14, (eBool ((!x1) || (!x4))))] ?_
  refine C_cd h0 (fun h0 => ?_) (fun h0 => ?_)
  · refine S_tn ttOk 1 [(4, (eInt .i64 (0 : Int)))] ?_
    refine C_rt ?_
    obtain rfl := Option.some.inj h0
    exact E_done (thenA_ret (Q_ret (x := (eInt .i64 (0 : Int))) (by kernel_rfl) (SubV.refl _) ⟨rfl, hO.out⟩))
  refine C_sk ?_
  refine E_tn [(0, (eL e_api_Value a0)), (1, (eL e_api_Value b1))] ?_
  refine C_sj (fun T H => Has T [(0, (eL e_api_Value a0)), (1, (eL e_api_Value b1))] ∧ Owns ⟨H0, [], []⟩ H [] ∧ ref06_Compare_j1 a0 b1 = some r) ?_ ?_
  · clear hO h0
    rintro T H ⟨hT, hO, h0⟩
    refine C_has hT ?_
    clear hT
    unfold ref06_Compare_j1 at h0
    refine C_sq ?_
    refine S_al ttOk 5 [] [(43, (eBool (decide (((List.length a0 : Nat) : Int) < ((List.length b1 : Nat) : Int)))))] ?_
    refine C_cd h0 (fun h0 => ?_) (fun h0 => ?_)
    · refine S_tn ttOk 1 [(4, (eInt .i64 (-1 : Int)))] ?_
      refine C_rt ?_
      obtain rfl := Option.some.inj h0
      exact E_done (thenA_ret (Q_ret (x := (eInt .i64 (-1 : Int))) (by kernel_rfl) (SubV.refl _) ⟨rfl, hO.out⟩))
    refine C_sk ?_
    refine E_tn [(0, (eL e_api_Value a0)), (1, (eL e_api_Value b1))] ?_
    refine C_sq ?_
    refine S_tn ttOk 5 [(48, (eBool (decide (((List.length b1 : Nat) : Int) < ((List.length a0 : Nat) : Int)))))] ?_
    refine C_cd h0 (fun h0 => ?_) (fun h0 => ?_)
    · refine S_tn ttOk 1 [(4, (eInt .i64 (1 : Int)))] ?_
      refine C_rt ?_
      obtain rfl := Option.some.inj h0
      exact E_done (thenA_ret (Q_ret (x := (eInt .i64 (1 : Int))) (by kernel_rfl) (SubV.refl _) ⟨rfl, hO.out⟩))
    refine C_sk ?_
    refine E_tn [] ?_
    refine S_tn ttOk 1 [(4, (eInt .i64 (0 : Int)))] ?_
    refine C_rt ?_
    obtain rfl := Option.some.inj h0
    exact E_done (Q_ret (x := (eInt .i64 (0 : Int))) (by kernel_rfl) (SubV.refl _) ⟨rfl, hO.out⟩)
  refine S_al ttOk 1 [] [(5, (eInt .i64 (0 : Int)))] ?_
  refine C_bk 0 ?_
  refine C_hk [(0, (eL e_api_Value a0)), (1, (eL e_api_Value b1)), (5, (eInt .i64 (0 : Int)))] ?_
  refine C_cut (fun T H => ∃ i5 : Int, Has T [(0, (eL e_api_Value a0)), (1, (eL e_api_Value b1)), (5, (eInt .i64 i5))] ∧ Owns ⟨H0, [], []⟩ H [] ∧ ref06_Compare_h2 a0 b1 i5 = some r) ?_ ⟨(0 : Int), .eq (by kernel_rfl), hO, h0⟩
  clear hO h0
  rintro T H ⟨i5, hT, hO, h0⟩
  refine C_has hT ?_
  clear hT
  unfold ref06_Compare_h2 at h0
  obtain ⟨rr0, hl0, h0⟩ := bindE h0
  refine C_loopS (by kernel_rfl) (fun (s : Int) T H => Has T [(0, (eL e_api_Value a0)), (1, (eL e_api_Value b1)), (5, (eInt .i64 s))] ∧ Owns ⟨H0, [], []⟩ H []) hl0 ⟨.eq (by kernel_rfl), hO⟩ ?_
  clear hO
  rintro k0 s out1 T H ⟨hT, hO⟩ h1 ho0
  obtain ⟨i5, rfl⟩ : ∃ x, x = s := ⟨_, rfl⟩
  replace h1 : ref06_Compare_l2 a0 b1 i5 = some out1 := h1
  refine C_has hT ?_
  clear hT
  unfold ref06_Compare_l2 at h1
  refine C_sq ?_
  refine S_al ttOk 10 [] [(24, (eBool ((decide (i5 < ((List.length a0 : Nat) : Int))) && (decide (i5 < ((List.length b1 : Nat) : Int))))))] ?_
  refine C_cd h1 (fun h1 => ?_) (fun h1 => ?_)
  · refine C_sk ?_
    refine E_tn [(0, (eL e_api_Value a0)), (1, (eL e_api_Value b1)), (5, (eInt .i64 i5))] ?_
    refine C_sq ?_
    refine C_bk 1 ?_
    refine C_sq ?_
    refine C_dg (plOf [30, 34]) ttOk 10 ?_
    obtain ⟨c11, h1⟩ := asrtE h1
    obtain ⟨c12, h1⟩ := asrtE h1
    refine D_ps 8 [0 ≤ i5 ∧ i5 < ((List.length a0 : Nat) : Int), 0 ≤ i5 ∧ i5 < ((List.length b1 : Nat) : Int)] ⟨c11, c12, trivial⟩ ?_
    obtain ⟨x13, hx14, h1⟩ := bindE h1
    refine D_callO 103 [(e_api_Value (List.getD a0 (Int.toNat i5) default)), (e_api_Value (List.getD b1 (Int.toNat i5) default))] (eInt .i64 x13) (by kernel_rfl) (by kernel_rfl) (w_ref05_Compare (List.getD a0 (Int.toNat i5) default) (List.getD b1 (Int.toNat i5) default) _ hx14) hO ?_
    intro H hO
    refine D_al ?_
    refine E_ad [] [(6, (eInt .i64 x13))] ?_
    refine S_al ttOk 2 [] [(37, (eBool (!decide (x13 = (0 : Int)))))] ?_
    refine C_cd h1 (fun h1 => ?_) (fun h1 => ?_)
    · refine S_tn ttOk 2 [(4, (eInt .i64 x13))] ?_
      refine C_rt ?_
      obtain rfl := Option.some.inj h1
      obtain rfl : _ = rr0 := ho0
      replace h0 : some x13 = some r := h0
      obtain rfl := Option.some.inj h0
      exact E_done (blockA_ret (thenA_ret (thenA_ret (blockA_ret (thenA_ret (Q_ret (x := (eInt .i64 x13)) (by kernel_rfl) (SubV.refl _) ⟨rfl, hO.out⟩))))))
    refine C_sk ?_
    refine E_hk [(0, (eL e_api_Value a0)), (1, (eL e_api_Value b1)), (5, (eInt .i64 i5))] ?_
    refine E_done (blockA_normal (thenA_normal (?_)))
    refine C_rg ttOk 3 ?_
    refine R_al ?_
    exact E_done (thenA_normal (⟨rfl, IntKind.i64.wrap (i5 + (1 : Int)), (Option.some.inj h1).symm, .eq (by kernel_rfl), hO⟩))
  refine C_ex 0 ?_
  obtain rfl := Option.some.inj h1
  obtain rfl : _ = rr0 := ho0
  replace h0 : ref06_Compare_j1 a0 b1 = some r := h0
  exact E_done (thenA_exit (thenA_exit (blockA_hit (thenA_normal (⟨rfl, .eq (by kernel_rfl), hO, h0⟩)))))

theorem w_ref06_Same (a0 : (List api_Value)) (b1 : (List api_Value)) (r : Bool) (h0 : s_ref06_Same a0 b1 = some r) : Fine Try.prog 48 [(eL e_api_Value a0), (eL e_api_Value b1)] (eBool r) := by
  intro H0
  refine F_wk Try.func48 ?_
  have hO := Owns.start H0
  unfold s_ref06_Same at h0
  refine S_al ttOk 1 [] [] ?_
  refine C_sq ?_
  refine S_al ttOk 5 [] [(10, (eBool (!decide (((List.length a0 : Nat) : Int) = ((List.length b1 : Nat) : Int)))))] ?_
  refine C_cd h0 (fun h0 => ?_) (fun h0 => ?_)
  · refine S_tn ttOk 1 [(4, (eBool false))] ?_
    refine C_rt ?_
    obtain rfl := Option.some.inj h0
    exact E_done (thenA_ret (Q_ret (x := (eBool false)) (by kernel_rfl) (SubV.refl _) ⟨rfl, hO.out⟩))
  refine C_sk ?_
  refine E_tn [(0, (eL e_api_Value a0)), (1, (eL e_api_Value b1))] ?_
  refine C_sj (fun T H => Has T [] ∧ Owns ⟨H0, [], []⟩ H [] ∧ ref06_Same_j1  = some r) ?_ ?_
  · clear hO h0
    rintro T H ⟨hT, hO, h0⟩
    refine C_has hT ?_
    clear hT
    unfold ref06_Same_j1 at h0
    refine S_tn ttOk 1 [(4, (eBool true))] ?_
    refine C_rt ?_
    obtain rfl := Option.some.inj h0
    exact E_done (Q_ret (x := (eBool true)) (by kernel_rfl) (SubV.refl _) ⟨rfl, hO.out⟩)
  refine S_al ttOk 1 [] [(5, (eInt .i64 (0 : Int)))] ?_
  refine C_bk 0 ?_
  refine C_hk [(0, (eL e_api_Value a0)), (1, (eL e_api_Value b1)), (5, (eInt .i64 (0 : Int)))] ?_
  refine C_cut (fun T H => ∃ i5 : Int, Has T [(0, (eL e_api_Value a0)), (1, (eL e_api_Value b1)), (5, (eInt .i64 i5))] ∧ Owns ⟨H0, [], []⟩ H [] ∧ ref06_Same_h2 a0 b1 i5 = some r) ?_ ⟨(0 : Int), .eq (by kernel_rfl), hO, h0⟩
  clear hO h0
  rintro T H ⟨i5, hT, hO, h0⟩
  refine C_has hT ?_
  clear hT
  unfold ref06_Same_h2 at h0
  obtain ⟨rr0, hl0, h0⟩ := bindE h0
  refine C_loopS (by kernel_rfl) (fun (s : Int) T H => Has T [(0, (eL e_api_Value a0)), (1, (eL e_api_Value b1)), (5, (eInt .i64 s))] ∧ Owns ⟨H0, [], []⟩ H []) hl0 ⟨.eq (by kernel_rfl), hO⟩ ?_
  clear hO
  rintro k0 s out1 T H ⟨hT, hO⟩ h1 ho0
  obtain ⟨i5, rfl⟩ : ∃ x, x = s := ⟨_, rfl⟩
  replace h1 : ref06_Same_l2 a0 b1 i5 = some out1 := h1
  refine C_has hT ?_
  clear hT
  unfold ref06_Same_l2 at h1
  refine C_sq ?_
  refine S_al ttOk 4 [] [(14, (eBool (decide (i5 < ((List.length a0 : Nat) : Int)))))] ?_
  refine C_cd h1 (fun h1 => ?_) (fun h1 => ?_)
  · refine C_sk ?_
    refine E_tn [(0, (eL e_api_Value a0)), (1, (eL e_api_Value b1)), (5, (eInt .i64 i5))] ?_
    refine C_sq ?_
    refine C_bk 1 ?_
    refine C_sq ?_
    refine C_dg (plOf [20, 24]) ttOk 9 ?_
    obtain ⟨c3, h1⟩ := asrtE h1
    obtain ⟨c4, h1⟩ := asrtE h1
    refine D_all (Ds := [0 ≤ i5 ∧ i5 < ((List.length a0 : Nat) : Int), 0 ≤ i5 ∧ i5 < ((List.length b1 : Nat) : Int)]) (by kernel_rfl) ⟨c3, c4, trivial⟩ ?_
    refine E_ad [] [(25, (eBool (!((decide (((List.getD a0 (Int.toNat i5) default).Kind) = ((List.getD b1 (Int.toNat i5) default).Kind))) && ((decide (((List.getD a0 (Int.toNat i5) default).Num) = ((List.getD b1 (Int.toNat i5) default).Num))) && ((strEq ((List.getD a0 (Int.toNat i5) default).Text) ((List.getD b1 (Int.toNat i5) default).Text)) && true))))))] ?_
    refine C_cd h1 (fun h1 => ?_) (fun h1 => ?_)
    · refine S_tn ttOk 1 [(4, (eBool false))] ?_
      refine C_rt ?_
      obtain rfl := Option.some.inj h1
      obtain rfl : _ = rr0 := ho0
      replace h0 : some false = some r := h0
      obtain rfl := Option.some.inj h0
      exact E_done (blockA_ret (thenA_ret (thenA_ret (blockA_ret (thenA_ret (Q_ret (x := (eBool false)) (by kernel_rfl) (SubV.refl _) ⟨rfl, hO.out⟩))))))
    refine C_sk ?_
    refine E_hk [(0, (eL e_api_Value a0)), (1, (eL e_api_Value b1)), (5, (eInt .i64 i5))] ?_
    refine E_done (blockA_normal (thenA_normal (?_)))
    refine C_rg ttOk 3 ?_
    refine R_al ?_
    exact E_done (thenA_normal (⟨rfl, IntKind.i64.wrap (i5 + (1 : Int)), (Option.some.inj h1).symm, .eq (by kernel_rfl), hO⟩))
  refine C_ex 0 ?_
  obtain rfl := Option.some.inj h1
  obtain rfl : _ = rr0 := ho0
  replace h0 : ref06_Same_j1  = some r := h0
  exact E_done (thenA_exit (thenA_exit (blockA_hit (thenA_normal (⟨rfl, .eq (by kernel_rfl), hO, h0⟩)))))

theorem w_ref10_Rows (l0 : (List api_Edge)) (r : (List (List api_Value))) (h0 : s_ref10_Rows l0 = some r) : Fine Try.prog 45 [(eL e_api_Edge l0)] (eL (eL e_api_Value) r) := by
  intro H0
  refine F_wk Try.func45 ?_
  have hO := Owns.start H0
  unfold s_ref10_Rows at h0
  refine S_al ttOk 1 [] [] ?_
  refine C_sq ?_
  refine C_rg ttOk 2 ?_
  refine R_bsl (xs := []) (k := 1) (by kernel_rfl) (by kernel_rfl) ?_
  refine R_al ?_
  refine E_ad [] [(3, (.sl true 0 (fun _ => .bad)))] ?_
  refine C_sj (fun T H => ∃ rows3 : List (List api_Value), ∃ lo1 : Nat, Has T [(3, (.msl 1 lo1 0 (List.length rows3)))] ∧ Owns ⟨H0, [], []⟩ H [(lo1, 1, List.map (eL e_api_Value) rows3)] ∧ ref10_Rows_j1 rows3 = some r) ?_ ?_
  · clear hO h0
    rintro T H ⟨rows3, lo1, hT, hO, h0⟩
    refine C_has hT ?_
    clear hT
    unfold ref10_Rows_j1 at h0
    refine S_tn ttOk 2 [(2, (.msl 1 lo1 0 (List.length rows3)))] ?_
    refine C_rt ?_
    refine E_hk [(2, (.msl 1 lo1 0 (List.length rows3)))] ?_
    refine E_freezeO (en := (eL e_api_Value)) rows3 0 0 2 1 lo1 (List.length rows3) hO (by kernel_rfl) (by kernel_rfl) (by kernel_rfl) (L' := []) (by kernel_rfl) ?_
    intro H2 hO
    obtain rfl := Option.some.inj h0
    exact E_done (Q_ret (x := (eL (eL e_api_Value) rows3)) (by kernel_rfl) (SubV.refl _) ⟨rfl, hO.out⟩)
  refine S_al ttOk 1 [] [(4, (eInt .i64 (0 : Int)))] ?_
  refine C_bk 0 ?_
  refine C_hk [(0, (eL e_api_Edge l0)), (3, (.sl true 0 (fun _ => .bad))), (4, (eInt .i64 (0 : Int)))] ?_
  refine C_ownO (el := (fun _ => .bad)) 1 3 1 hO (by kernel_rfl) ?_
  intro lo31 H32 hO
  refine C_cut (fun T H => ∃ rows3 : List (List api_Value), ∃ i4 : Int, ∃ lo4 : Nat, Has T [(0, (eL e_api_Edge l0)), (3, (.msl 1 lo4 0 (List.length rows3))), (4, (eInt .i64 i4))] ∧ Owns ⟨H0, [], []⟩ H [(lo4, 1, List.map (eL e_api_Value) rows3)] ∧ ref10_Rows_h2 l0 rows3 i4 = some r) ?_ ⟨([] : List (List api_Value)), (0 : Int), lo31, .eq (by kernel_rfl), hO, h0⟩
  clear hO h0
  rintro T H ⟨rows3, i4, lo4, hT, hO, h0⟩
  refine C_has hT ?_
  clear hT
  unfold ref10_Rows_h2 at h0
  obtain ⟨rr0, hl0, h0⟩ := bindE h0
  refine C_loopS (by kernel_rfl) (fun (s : List (List api_Value) × Int) T H => ∃ lo4 : Nat, Has T [(0, (eL e_api_Edge l0)), (3, (.msl 1 lo4 0 (List.length s.1))), (4, (eInt .i64 s.2))] ∧ Owns ⟨H0, [], []⟩ H [(lo4, 1, List.map (eL e_api_Value) s.1)]) hl0 ⟨lo4, .eq (by kernel_rfl), hO⟩ ?_
  clear hO
  rintro k0 s out1 T H ⟨lo4, hT, hO⟩ h1 ho0
  obtain ⟨rows3, i4⟩ := s
  replace h1 : ref10_Rows_l2 l0 rows3 i4 = some out1 := h1
  dsimp only at hT
  refine C_has hT ?_
  clear hT
  unfold ref10_Rows_l2 at h1
  refine C_sq ?_
  refine S_al ttOk 4 [] [(11, (eBool (decide (i4 < ((List.length l0 : Nat) : Int)))))] ?_
  refine C_cd h1 (fun h1 => ?_) (fun h1 => ?_)
  · refine C_sk ?_
    refine E_tn [(0, (eL e_api_Edge l0)), (3, (.msl 1 lo4 0 (List.length rows3))), (4, (eInt .i64 i4))] ?_
    refine C_sj (fun T H => ∃ rows3 : List (List api_Value), ∃ lo6 : Nat, Has T [(0, (eL e_api_Edge l0)), (3, (.msl 1 lo6 0 (List.length rows3))), (4, (eInt .i64 i4))] ∧ Owns ⟨H0, [], []⟩ H [(lo6, 1, List.map (eL e_api_Value) rows3)] ∧ ref10_Rows_j3 l0 rows3 i4 = some out1) ?_ ?_
    · clear hO h1
      rintro T H ⟨rows3, lo6, hT, hO, h1⟩
      refine C_has hT ?_
      clear hT
      unfold ref10_Rows_j3 at h1
      refine C_rg ttOk 3 ?_
      refine R_al ?_
      exact E_done (thenA_normal (⟨rfl, (rows3, IntKind.i64.wrap (i4 + (1 : Int))), (Option.some.inj h1).symm, lo6, .eq (by kernel_rfl), hO⟩))
    refine C_bk 1 ?_
    refine S_al ttOk 1 [] [(5, (eInt .i64 (0 : Int)))] ?_
    refine C_sj (fun T H => ∃ rows3 : List (List api_Value), ∃ at5 : Int, ∃ lo7 : Nat, Has T [(0, (eL e_api_Edge l0)), (3, (.msl 1 lo7 0 (List.length rows3))), (4, (eInt .i64 i4)), (5, (eInt .i64 at5))] ∧ Owns ⟨H0, [], []⟩ H [(lo7, 1, List.map (eL e_api_Value) rows3)] ∧ ref10_Rows_j4 l0 rows3 i4 at5 = some out1) ?_ ?_
    · clear hO h1
      rintro T H ⟨rows3, at5, lo7, hT, hO, h1⟩
      refine C_has hT ?_
      clear hT
      unfold ref10_Rows_j4 at h1
      refine C_sq ?_
      refine C_sq ?_
      obtain ⟨c8, h1⟩ := asrtE h1
      obtain ⟨c9, h1⟩ := asrtE h1
      obtain ⟨x10, hx11, h1⟩ := bindE h1
      refine C_dg (plOf [46]) ttOk 16 ?_
      refine D_mono (K := fun T H => Has (lift T) [(0, (eL e_api_Edge l0)), (3, (.msl 1 lo7 0 (List.length rows3))), (4, (eInt .i64 i4)), (5, (eInt .i64 at5)), (48, (eBool ((decide (at5 < ((List.length rows3 : Nat) : Int))) && x10)))] ∧ Owns ⟨H0, [], []⟩ H [(lo7, 1, List.map (eL e_api_Value) rows3)]) ?_ ?_
      · refine D_pu 5 ?_
        refine D_split (t := 37) (e := decide (at5 < ((List.length rows3 : Nat) : Int))) (by kernel_rfl) (fun hg12 => ?_) (fun hg12 => ?_)
        · refine D_ps 8 [0 ≤ at5 ∧ at5 < ((List.length rows3 : Nat) : Int)] ⟨(c8 (by first | (simp only [hg12, Bool.not_true, Bool.not_false, Bool.true_and, Bool.and_true, Bool.false_and, Bool.and_false, Bool.or_true, Bool.true_or, Bool.or_false, Bool.false_or, cond_true, cond_false]; done) | simp [hg12])), trivial⟩ ?_
          refine D_loadV 0 lo7 1 (0 + Int.toNat at5) (eL e_api_Value (List.getD rows3 (Int.toNat at5) default)) (eL e_api_Value (List.getD rows3 (Int.toNat at5) default)) (List.map (eL e_api_Value) rows3) (by kernel_rfl) (by kernel_rfl) (by kernel_rfl) hO (by kernel_rfl) (ownGet (c8 (by first | (simp only [hg12, Bool.not_true, Bool.not_false, Bool.true_and, Bool.and_true, Bool.false_and, Bool.and_false, Bool.or_true, Bool.true_or, Bool.or_false, Bool.false_or, cond_true, cond_false]; done) | simp [hg12]))) ?_
          refine D_ps 14 [0 ≤ i4 ∧ i4 < ((List.length l0 : Nat) : Int)] ⟨(c9 (by first | (simp only [hg12, Bool.not_true, Bool.not_false, Bool.true_and, Bool.and_true, Bool.false_and, Bool.and_false, Bool.or_true, Bool.true_or, Bool.or_false, Bool.false_or, cond_true, cond_false]; done) | simp [hg12])), trivial⟩ ?_
          refine D_callV 48 [(eL e_api_Value (List.getD rows3 (Int.toNat at5) default)), (eL e_api_Value ((List.getD l0 (Int.toNat i4) default).Row))] (eBool x10) (by kernel_rfl) (by kernel_rfl) (w_ref06_Same (List.getD rows3 (Int.toNat at5) default) ((List.getD l0 (Int.toNat i4) default).Row) _ (gcallE hx11 (by first | (simp only [hg12, Bool.not_true, Bool.not_false, Bool.true_and, Bool.and_true, Bool.false_and, Bool.and_false, Bool.or_true, Bool.true_or, Bool.or_false, Bool.false_or, cond_true, cond_false]; done) | simp [hg12]))) hO ?_
          intro H hO
          refine D_al ?_
          exact ⟨⟨[(0, (eL e_api_Edge l0)), (3, (.msl 1 lo7 0 (List.length rows3))), (4, (eInt .i64 i4)), (5, (eInt .i64 at5)), (48, (eBool x10))], by kernel_rfl, rfl, ⟨SubV.refl _, SubV.refl _, SubV.refl _, SubV.refl _, SubV.eq (by first | (simp only [eBool, hg12, Bool.not_true, Bool.not_false, Bool.true_and, Bool.and_true, Bool.false_and, Bool.and_false, Bool.or_true, Bool.true_or, Bool.or_false, Bool.false_or, cond_true, cond_false]; done) | simp [eBool, hg12]), trivial⟩⟩, hO⟩
        refine D_al ?_
        exact ⟨⟨[(0, (eL e_api_Edge l0)), (3, (.msl 1 lo7 0 (List.length rows3))), (4, (eInt .i64 i4)), (5, (eInt .i64 at5)), (48, (eBool false))], by kernel_rfl, rfl, ⟨SubV.refl _, SubV.refl _, SubV.refl _, SubV.refl _, SubV.eq (by first | (simp only [eBool, hg12, Bool.not_true, Bool.not_false, Bool.true_and, Bool.and_true, Bool.false_and, Bool.and_false, Bool.or_true, Bool.true_or, Bool.or_false, Bool.false_or, cond_true, cond_false]; done) | simp [eBool, hg12]), trivial⟩⟩, hO⟩
      · rintro T H ⟨hT, hO⟩
        refine E_has hT ?_
        clear hT
        refine E_done (thenA_normal ?_)
        refine C_cd h1 (fun h1 => ?_) (fun h1 => ?_)
        · refine C_ex 1 ?_
          exact E_done (thenA_exit (blockA_hit (thenA_normal (⟨rfl, rows3, lo7, .eq (by kernel_rfl), hO, h1⟩))))
        refine C_sk ?_
        refine E_tn [(0, (eL e_api_Edge l0)), (3, (.msl 1 lo7 0 (List.length rows3))), (4, (eInt .i64 i4)), (5, (eInt .i64 at5))] ?_
        refine C_sq ?_
        refine C_rg ttOk 6 ?_
        refine R_bsl (xs := []) (k := 1) (by kernel_rfl) (by kernel_rfl) ?_
        obtain ⟨c14, h1⟩ := asrtE h1
        refine R_ps 4 [0 ≤ at5 ∧ at5 ≤ ((List.length rows3 : Nat) : Int)] ⟨c14, trivial⟩ ?_
        obtain ⟨c16, h1⟩ := asrtE h1
        refine R_appNL (e := (eL e_api_Value)) (List.take (Int.toNat at5) rows3) (fun _ => .bad) 1 24 (.msl 1 lo7 0 (Int.toNat at5)) (fun lo15 => [(lo7, 1, List.map (eL e_api_Value) rows3), (lo15, 1, List.map (eL e_api_Value) (List.take (Int.toNat at5) rows3))]) (by kernel_rfl) (by kernel_rfl) hO (appX_ownTake hO 0 (by kernel_rfl) (Int.toNat_le.2 (And.right c14))) c16 (fun _ => by kernel_rfl) ?_
        intro lo15 H hO
        refine R_al ?_
        refine E_ad [] [(6, (.msl 1 lo15 0 (List.length (List.take (Int.toNat at5) rows3))))] ?_
        refine C_sq ?_
        refine C_rg ttOk 9 ?_
        obtain ⟨c17, h1⟩ := asrtE h1
        refine R_ps 6 [0 ≤ i4 ∧ i4 < ((List.length l0 : Nat) : Int)] ⟨c17, trivial⟩ ?_
        refine R_bsl (xs := [(eL e_api_Value ((List.getD l0 (Int.toNat i4) default).Row))]) (k := 1) (by kernel_rfl) (by kernel_rfl) ?_
        obtain ⟨c19, h1⟩ := asrtE h1
        refine R_appOL (e := (eL e_api_Value)) (List.take (Int.toNat at5) rows3) ([(List.getD l0 (Int.toNat i4) default).Row]) 1 lo15 1 24 (frozenOf [(eL e_api_Value ((List.getD l0 (Int.toNat i4) default).Row))]) (fun lo18 => [(lo7, 1, List.map (eL e_api_Value) rows3), (lo18, 1, List.map (eL e_api_Value) ((List.take (Int.toNat at5) rows3) ++ ([(List.getD l0 (Int.toNat i4) default).Row])))]) (by kernel_rfl) (by kernel_rfl) hO (by kernel_rfl) (by kernel_rfl) c19 (fun _ => by kernel_rfl) ?_
        intro lo18 H hO
        refine R_al ?_
        refine E_ad [6] [(6, (.msl 1 lo18 0 (List.length ((List.take (Int.toNat at5) rows3) ++ ([(List.getD l0 (Int.toNat i4) default).Row])))))] ?_
        refine C_rg ttOk 6 ?_
        obtain ⟨c20, h1⟩ := asrtE h1
        refine R_ps 4 [0 ≤ at5 ∧ at5 ≤ ((List.length rows3 : Nat) : Int)] ⟨c20, trivial⟩ ?_
        obtain ⟨c22, h1⟩ := asrtE h1
        refine R_appOL (e := (eL e_api_Value)) ((List.take (Int.toNat at5) rows3) ++ ([(List.getD l0 (Int.toNat i4) default).Row])) (List.drop (Int.toNat at5) rows3) 1 lo18 1 24 (.msl 1 lo7 (0 + Int.toNat at5) (List.length rows3 - Int.toNat at5)) (fun lo21 => [(lo7, 1, List.map (eL e_api_Value) rows3), (lo21, 1, List.map (eL e_api_Value) (((List.take (Int.toNat at5) rows3) ++ ([(List.getD l0 (Int.toNat i4) default).Row])) ++ (List.drop (Int.toNat at5) rows3)))]) (by kernel_rfl) (by kernel_rfl) hO (by kernel_rfl) (appX_ownDrop hO 0 (by kernel_rfl) rfl (Int.toNat_le.2 (And.right c20))) c22 (fun _ => by kernel_rfl) ?_
        intro lo21 H hO
        refine R_al ?_
        replace hO := hO.pick (L' := [(lo21, 1, List.map (eL e_api_Value) (((List.take (Int.toNat at5) rows3) ++ ([(List.getD l0 (Int.toNat i4) default).Row])) ++ (List.drop (Int.toNat at5) rows3)))]) [1] (by decide) (by kernel_rfl)
        exact E_done (blockA_normal (thenA_normal (⟨rfl, ((List.take (Int.toNat at5) rows3) ++ ([(List.getD l0 (Int.toNat i4) default).Row])) ++ (List.drop (Int.toNat at5) rows3), lo21, .eq (by kernel_rfl), hO, h1⟩)))
    refine C_bk 2 ?_
    refine C_hk [(0, (eL e_api_Edge l0)), (3, (.msl 1 lo4 0 (List.length rows3))), (4, (eInt .i64 i4)), (5, (eInt .i64 (0 : Int)))] ?_
    refine C_cut (fun T H => ∃ rows3 : List (List api_Value), ∃ at5 : Int, ∃ lo24 : Nat, Has T [(0, (eL e_api_Edge l0)), (3, (.msl 1 lo24 0 (List.length rows3))), (4, (eInt .i64 i4)), (5, (eInt .i64 at5))] ∧ Owns ⟨H0, [], []⟩ H [(lo24, 1, List.map (eL e_api_Value) rows3)] ∧ ref10_Rows_h5 l0 rows3 i4 at5 = some out1) ?_ ⟨rows3, (0 : Int), lo4, .eq (by kernel_rfl), hO, h1⟩
    clear hO h1
    rintro T H ⟨rows3, at5, lo24, hT, hO, h1⟩
    refine C_has hT ?_
    clear hT
    unfold ref10_Rows_h5 at h1
    obtain ⟨rr1, hl1, h1⟩ := bindE h1
    refine C_loopS (by kernel_rfl) (fun (s : List (List api_Value) × Int) T H => ∃ lo24 : Nat, Has T [(0, (eL e_api_Edge l0)), (3, (.msl 1 lo24 0 (List.length s.1))), (4, (eInt .i64 i4)), (5, (eInt .i64 s.2))] ∧ Owns ⟨H0, [], []⟩ H [(lo24, 1, List.map (eL e_api_Value) s.1)]) hl1 ⟨lo24, .eq (by kernel_rfl), hO⟩ ?_
    clear hO
    rintro k1 s out2 T H ⟨lo24, hT, hO⟩ h2 ho1
    obtain ⟨rows3, at5⟩ := s
    replace h2 : ref10_Rows_l5 l0 i4 rows3 at5 = some out2 := h2
    dsimp only at hT
    refine C_has hT ?_
    clear hT
    unfold ref10_Rows_l5 at h2
    refine C_sq ?_
    refine C_sq ?_
    obtain ⟨c25, h2⟩ := asrtE h2
    obtain ⟨c26, h2⟩ := asrtE h2
    obtain ⟨x27, hx28, h2⟩ := bindE h2
    refine C_dg (plOf [27]) ttOk 17 ?_
    refine D_mono (K := fun T H => Has (lift T) [(0, (eL e_api_Edge l0)), (3, (.msl 1 lo24 0 (List.length rows3))), (4, (eInt .i64 i4)), (5, (eInt .i64 at5)), (30, (eBool ((decide (at5 < ((List.length rows3 : Nat) : Int))) && (decide (x27 < (0 : Int))))))] ∧ Owns ⟨H0, [], []⟩ H [(lo24, 1, List.map (eL e_api_Value) rows3)]) ?_ ?_
    · refine D_pu 5 ?_
      refine D_split (t := 18) (e := decide (at5 < ((List.length rows3 : Nat) : Int))) (by kernel_rfl) (fun hg29 => ?_) (fun hg29 => ?_)
      · refine D_ps 8 [0 ≤ at5 ∧ at5 < ((List.length rows3 : Nat) : Int)] ⟨(c25 (by first | (simp only [hg29, Bool.not_true, Bool.not_false, Bool.true_and, Bool.and_true, Bool.false_and, Bool.and_false, Bool.or_true, Bool.true_or, Bool.or_false, Bool.false_or, cond_true, cond_false]; done) | simp [hg29])), trivial⟩ ?_
        refine D_loadV 0 lo24 1 (0 + Int.toNat at5) (eL e_api_Value (List.getD rows3 (Int.toNat at5) default)) (eL e_api_Value (List.getD rows3 (Int.toNat at5) default)) (List.map (eL e_api_Value) rows3) (by kernel_rfl) (by kernel_rfl) (by kernel_rfl) hO (by kernel_rfl) (ownGet (c25 (by first | (simp only [hg29, Bool.not_true, Bool.not_false, Bool.true_and, Bool.and_true, Bool.false_and, Bool.and_false, Bool.or_true, Bool.true_or, Bool.or_false, Bool.false_or, cond_true, cond_false]; done) | simp [hg29]))) ?_
        refine D_ps 14 [0 ≤ i4 ∧ i4 < ((List.length l0 : Nat) : Int)] ⟨(c26 (by first | (simp only [hg29, Bool.not_true, Bool.not_false, Bool.true_and, Bool.and_true, Bool.false_and, Bool.and_false, Bool.or_true, Bool.true_or, Bool.or_false, Bool.false_or, cond_true, cond_false]; done) | simp [hg29])), trivial⟩ ?_
        refine D_callV 68 [(eL e_api_Value (List.getD rows3 (Int.toNat at5) default)), (eL e_api_Value ((List.getD l0 (Int.toNat i4) default).Row))] (eInt .i64 x27) (by kernel_rfl) (by kernel_rfl) (w_ref06_Compare (List.getD rows3 (Int.toNat at5) default) ((List.getD l0 (Int.toNat i4) default).Row) _ (gcallE hx28 (by first | (simp only [hg29, Bool.not_true, Bool.not_false, Bool.true_and, Bool.and_true, Bool.false_and, Bool.and_false, Bool.or_true, Bool.true_or, Bool.or_false, Bool.false_or, cond_true, cond_false]; done) | simp [hg29]))) hO ?_
        intro H hO
        refine D_al ?_
        exact ⟨⟨[(0, (eL e_api_Edge l0)), (3, (.msl 1 lo24 0 (List.length rows3))), (4, (eInt .i64 i4)), (5, (eInt .i64 at5)), (30, (eBool (decide (x27 < (0 : Int)))))], by kernel_rfl, rfl, ⟨SubV.refl _, SubV.refl _, SubV.refl _, SubV.refl _, SubV.eq (by first | (simp only [eBool, hg29, Bool.not_true, Bool.not_false, Bool.true_and, Bool.and_true, Bool.false_and, Bool.and_false, Bool.or_true, Bool.true_or, Bool.or_false, Bool.false_or, cond_true, cond_false]; done) | simp [eBool, hg29]), trivial⟩⟩, hO⟩
      refine D_al ?_
      exact ⟨⟨[(0, (eL e_api_Edge l0)), (3, (.msl 1 lo24 0 (List.length rows3))), (4, (eInt .i64 i4)), (5, (eInt .i64 at5)), (30, (eBool false))], by kernel_rfl, rfl, ⟨SubV.refl _, SubV.refl _, SubV.refl _, SubV.refl _, SubV.eq (by first | (simp only [eBool, hg29, Bool.not_true, Bool.not_false, Bool.true_and, Bool.and_true, Bool.false_and, Bool.and_false, Bool.or_true, Bool.true_or, Bool.or_false, Bool.false_or, cond_true, cond_false]; done) | simp [eBool, hg29]), trivial⟩⟩, hO⟩
    · rintro T H ⟨hT, hO⟩
      refine E_has hT ?_
      clear hT
      refine E_done (thenA_normal ?_)
      refine C_cd h2 (fun h2 => ?_) (fun h2 => ?_)
      · refine C_sk ?_
        refine E_tn [(0, (eL e_api_Edge l0)), (3, (.msl 1 lo24 0 (List.length rows3))), (4, (eInt .i64 i4)), (5, (eInt .i64 at5))] ?_
        refine C_bk 3 ?_
        refine C_rg ttOk 3 ?_
        refine R_al ?_
        exact E_done (blockA_normal (thenA_normal (⟨rfl, (rows3, IntKind.i64.wrap (at5 + (1 : Int))), (Option.some.inj h2).symm, lo24, .eq (by kernel_rfl), hO⟩)))
      refine C_ex 2 ?_
      obtain rfl := Option.some.inj h2
      obtain rfl : _ = rr1 := ho1
      replace h1 : ref10_Rows_j4 l0 rows3 i4 at5 = some out1 := h1
      exact E_done (thenA_exit (thenA_exit (blockA_hit (thenA_normal (⟨rfl, rows3, at5, lo24, .eq (by kernel_rfl), hO, h1⟩)))))
  refine C_ex 0 ?_
  obtain rfl := Option.some.inj h1
  obtain rfl : _ = rr0 := ho0
  replace h0 : ref10_Rows_j1 rows3 = some r := h0
  exact E_done (thenA_exit (thenA_exit (blockA_hit (thenA_normal (⟨rfl, rows3, lo4, .eq (by kernel_rfl), hO, h0⟩)))))

theorem w_ref10_Jumps (l0 : (List api_Edge)) (r1 : (List api_Value)) (r : (List api_Jump)) (h0 : s_ref10_Jumps l0 r1 = some r) : Fine Try.prog 19 [(eL e_api_Edge l0), (eL e_api_Value r1)] (eL e_api_Jump r) := by
  intro H0
  refine F_wk Try.func19 ?_
  have hO := Owns.start H0
  unfold s_ref10_Jumps at h0
  refine S_al ttOk 1 [] [] ?_
  refine C_sq ?_
  refine C_rg ttOk 2 ?_
  refine R_bsl (xs := []) (k := 2) (by kernel_rfl) (by kernel_rfl) ?_
  refine R_al ?_
  refine E_ad [] [(5, (.sl true 0 (fun _ => .bad)))] ?_
  refine C_sj (fun T H => ∃ f5 : List api_Jump, ∃ lo1 : Nat, Has T [(5, (.msl 2 lo1 0 (List.length f5)))] ∧ Owns ⟨H0, [], []⟩ H [(lo1, 2, List.map e_api_Jump f5)] ∧ ref10_Jumps_j1 f5 = some r) ?_ ?_
  · clear hO h0
    rintro T H ⟨f5, lo1, hT, hO, h0⟩
    refine C_has hT ?_
    clear hT
    unfold ref10_Jumps_j1 at h0
    refine S_tn ttOk 2 [(4, (.msl 2 lo1 0 (List.length f5)))] ?_
    refine C_rt ?_
    refine E_hk [(4, (.msl 2 lo1 0 (List.length f5)))] ?_
    refine E_freezeO (en := e_api_Jump) f5 0 0 4 2 lo1 (List.length f5) hO (by kernel_rfl) (by kernel_rfl) (by kernel_rfl) (L' := []) (by kernel_rfl) ?_
    intro H2 hO
    obtain rfl := Option.some.inj h0
    exact E_done (Q_ret (x := (eL e_api_Jump f5)) (by kernel_rfl) (SubV.refl _) ⟨rfl, hO.out⟩)
  refine S_al ttOk 1 [] [(6, (eInt .i64 (0 : Int)))] ?_
  refine C_bk 0 ?_
  refine C_hk [(0, (eL e_api_Edge l0)), (1, (eL e_api_Value r1)), (5, (.sl true 0 (fun _ => .bad))), (6, (eInt .i64 (0 : Int)))] ?_
  refine C_ownO (el := (fun _ => .bad)) 2 5 2 hO (by kernel_rfl) ?_
  intro lo16 H17 hO
  refine C_cut (fun T H => ∃ f5 : List api_Jump, ∃ i6 : Int, ∃ lo4 : Nat, Has T [(0, (eL e_api_Edge l0)), (1, (eL e_api_Value r1)), (5, (.msl 2 lo4 0 (List.length f5))), (6, (eInt .i64 i6))] ∧ Owns ⟨H0, [], []⟩ H [(lo4, 2, List.map e_api_Jump f5)] ∧ ref10_Jumps_h2 l0 r1 f5 i6 = some r) ?_ ⟨([] : List api_Jump), (0 : Int), lo16, .eq (by kernel_rfl), hO, h0⟩
  clear hO h0
  rintro T H ⟨f5, i6, lo4, hT, hO, h0⟩
  refine C_has hT ?_
  clear hT
  unfold ref10_Jumps_h2 at h0
  obtain ⟨rr0, hl0, h0⟩ := bindE h0
  refine C_loopS (by kernel_rfl) (fun (s : List api_Jump × Int) T H => ∃ lo4 : Nat, Has T [(0, (eL e_api_Edge l0)), (1, (eL e_api_Value r1)), (5, (.msl 2 lo4 0 (List.length s.1))), (6, (eInt .i64 s.2))] ∧ Owns ⟨H0, [], []⟩ H [(lo4, 2, List.map e_api_Jump s.1)]) hl0 ⟨lo4, .eq (by kernel_rfl), hO⟩ ?_
  clear hO
  rintro k0 s out1 T H ⟨lo4, hT, hO⟩ h1 ho0
  obtain ⟨f5, i6⟩ := s
  replace h1 : ref10_Jumps_l2 l0 r1 f5 i6 = some out1 := h1
  dsimp only at hT
  refine C_has hT ?_
  clear hT
  unfold ref10_Jumps_l2 at h1
  refine C_sq ?_
  refine S_al ttOk 4 [] [(11, (eBool (decide (i6 < ((List.length l0 : Nat) : Int)))))] ?_
  refine C_cd h1 (fun h1 => ?_) (fun h1 => ?_)
  · refine C_sk ?_
    refine E_tn [(0, (eL e_api_Edge l0)), (1, (eL e_api_Value r1)), (5, (.msl 2 lo4 0 (List.length f5))), (6, (eInt .i64 i6))] ?_
    refine C_sj (fun T H => ∃ f5 : List api_Jump, ∃ lo6 : Nat, Has T [(0, (eL e_api_Edge l0)), (1, (eL e_api_Value r1)), (5, (.msl 2 lo6 0 (List.length f5))), (6, (eInt .i64 i6))] ∧ Owns ⟨H0, [], []⟩ H [(lo6, 2, List.map e_api_Jump f5)] ∧ ref10_Jumps_j3 l0 r1 f5 i6 = some out1) ?_ ?_
    · clear hO h1
      rintro T H ⟨f5, lo6, hT, hO, h1⟩
      refine C_has hT ?_
      clear hT
      unfold ref10_Jumps_j3 at h1
      refine C_rg ttOk 3 ?_
      refine R_al ?_
      exact E_done (thenA_normal (⟨rfl, (f5, IntKind.i64.wrap (i6 + (1 : Int))), (Option.some.inj h1).symm, lo6, .eq (by kernel_rfl), hO⟩))
    refine C_bk 1 ?_
    refine C_sq ?_
    refine C_rg ttOk 7 ?_
    obtain ⟨c7, h1⟩ := asrtE h1
    refine R_ps 6 [0 ≤ i6 ∧ i6 < ((List.length l0 : Nat) : Int)] ⟨c7, trivial⟩ ?_
    obtain ⟨x8, hx9, h1⟩ := bindE h1
    refine R_cO 48 [(eL e_api_Value ((List.getD l0 (Int.toNat i6) default).Row)), (eL e_api_Value r1)] (eBool x8) (w_ref06_Same ((List.getD l0 (Int.toNat i6) default).Row) r1 _ hx9) hO ?_
    intro H hO
    refine R_en ?_
    refine E_ad [] [(20, (eBool x8))] ?_
    refine C_cd h1 (fun h1 => ?_) (fun h1 => ?_)
    · refine C_dg (plOf [26, 31]) ttOk 15 ?_
      obtain ⟨c12, h1⟩ := asrtE h1
      obtain ⟨c13, h1⟩ := asrtE h1
      refine D_ps 12 [0 ≤ i6 ∧ i6 < ((List.length l0 : Nat) : Int), 0 ≤ i6 ∧ i6 < ((List.length l0 : Nat) : Int)] ⟨c12, c13, trivial⟩ ?_
      refine D_bsl (xs := [(e_api_Jump (api_Jump.mk ((List.getD l0 (Int.toNat i6) default).At) ((List.getD l0 (Int.toNat i6) default).Net)))]) (k := 2) (by kernel_rfl) (by kernel_rfl) ?_
      obtain ⟨c15, h1⟩ := asrtE h1
      refine D_appOL (e := e_api_Jump) f5 ([api_Jump.mk ((List.getD l0 (Int.toNat i6) default).At) ((List.getD l0 (Int.toNat i6) default).Net)]) 0 lo4 2 16 (frozenOf [(e_api_Jump (api_Jump.mk ((List.getD l0 (Int.toNat i6) default).At) ((List.getD l0 (Int.toNat i6) default).Net)))]) (fun lo14 => [(lo14, 2, List.map e_api_Jump (f5 ++ ([api_Jump.mk ((List.getD l0 (Int.toNat i6) default).At) ((List.getD l0 (Int.toNat i6) default).Net)])))]) (by kernel_rfl) (by kernel_rfl) hO (by kernel_rfl) (by kernel_rfl) c15 (fun _ => by kernel_rfl) ?_
      intro lo14 H hO
      refine D_al ?_
      exact E_done (blockA_normal (thenA_normal (⟨rfl, f5 ++ ([api_Jump.mk ((List.getD l0 (Int.toNat i6) default).At) ((List.getD l0 (Int.toNat i6) default).Net)]), lo14, .eq (by kernel_rfl), hO, h1⟩)))
    refine C_sk ?_
    exact E_done (blockA_normal (thenA_normal (⟨rfl, f5, lo4, .eq (by kernel_rfl), hO, h1⟩)))
  refine C_ex 0 ?_
  obtain rfl := Option.some.inj h1
  obtain rfl : _ = rr0 := ho0
  replace h0 : ref10_Jumps_j1 f5 = some r := h0
  exact E_done (thenA_exit (thenA_exit (blockA_hit (thenA_normal (⟨rfl, f5, lo4, .eq (by kernel_rfl), hO, h0⟩)))))

theorem w_ref10_May (l0 : (List api_Edge)) (r : Bool) (h0 : s_ref10_May l0 = some r) : Fine Try.prog 27 [(eL e_api_Edge l0)] (eBool r) := by
  intro H0
  refine F_wk Try.func27 ?_
  have hO := Owns.start H0
  unfold s_ref10_May at h0
  refine S_al ttOk 1 [] [] ?_
  refine C_sq ?_
  refine S_al ttOk 3 [] [(9, (eBool (decide ((4096 : Int) < ((List.length l0 : Nat) : Int)))))] ?_
  refine C_cd h0 (fun h0 => ?_) (fun h0 => ?_)
  · refine S_tn ttOk 1 [(2, (eBool false))] ?_
    refine C_rt ?_
    obtain rfl := Option.some.inj h0
    exact E_done (thenA_ret (Q_ret (x := (eBool false)) (by kernel_rfl) (SubV.refl _) ⟨rfl, hO.out⟩))
  refine C_sk ?_
  refine E_tn [(0, (eL e_api_Edge l0))] ?_
  refine C_sj (fun T H => Has T [(0, (eL e_api_Edge l0))] ∧ Owns ⟨H0, [], []⟩ H [] ∧ ref10_May_j1 l0 = some r) ?_ ?_
  · clear hO h0
    rintro T H ⟨hT, hO, h0⟩
    refine C_has hT ?_
    clear hT
    unfold ref10_May_j1 at h0
    refine C_sq ?_
    refine C_rg ttOk 3 ?_
    refine R_pu 1 ?_
    obtain ⟨x2, hx3, h0⟩ := bindE h0
    refine R_cO 45 [(eL e_api_Edge l0)] (eL (eL e_api_Value) x2) (w_ref10_Rows l0 _ hx3) hO ?_
    intro H hO
    refine R_al ?_
    refine E_ad [] [(5, (eL (eL e_api_Value) x2))] ?_
    refine C_sj (fun T H => Has T [] ∧ Owns ⟨H0, [], []⟩ H [] ∧ ref10_May_j2  = some r) ?_ ?_
    · clear hO h0
      rintro T H ⟨hT, hO, h0⟩
      refine C_has hT ?_
      clear hT
      unfold ref10_May_j2 at h0
      refine S_tn ttOk 1 [(2, (eBool true))] ?_
      refine C_rt ?_
      obtain rfl := Option.some.inj h0
      exact E_done (Q_ret (x := (eBool true)) (by kernel_rfl) (SubV.refl _) ⟨rfl, hO.out⟩)
    refine S_al ttOk 1 [] [(6, (eInt .i64 (0 : Int)))] ?_
    refine C_bk 2 ?_
    refine C_hk [(0, (eL e_api_Edge l0)), (5, (eL (eL e_api_Value) x2)), (6, (eInt .i64 (0 : Int)))] ?_
    refine C_cut (fun T H => ∃ rows5 : (List (List api_Value)), ∃ i6 : Int, Has T [(0, (eL e_api_Edge l0)), (5, (eL (eL e_api_Value) rows5)), (6, (eInt .i64 i6))] ∧ Owns ⟨H0, [], []⟩ H [] ∧ ref10_May_h3 l0 rows5 i6 = some r) ?_ ⟨x2, (0 : Int), .eq (by kernel_rfl), hO, h0⟩
    clear hO h0
    rintro T H ⟨rows5, i6, hT, hO, h0⟩
    refine C_has hT ?_
    clear hT
    unfold ref10_May_h3 at h0
    obtain ⟨rr0, hl0, h0⟩ := bindE h0
    refine C_loopS (by kernel_rfl) (fun (s : Int) T H => Has T [(0, (eL e_api_Edge l0)), (5, (eL (eL e_api_Value) rows5)), (6, (eInt .i64 s))] ∧ Owns ⟨H0, [], []⟩ H []) hl0 ⟨.eq (by kernel_rfl), hO⟩ ?_
    clear hO
    rintro k0 s out1 T H ⟨hT, hO⟩ h1 ho0
    obtain ⟨i6, rfl⟩ : ∃ x, x = s := ⟨_, rfl⟩
    replace h1 : ref10_May_l3 l0 rows5 i6 = some out1 := h1
    refine C_has hT ?_
    clear hT
    unfold ref10_May_l3 at h1
    refine C_sq ?_
    refine S_al ttOk 4 [] [(78, (eBool (decide (i6 < ((List.length rows5 : Nat) : Int)))))] ?_
    refine C_cd h1 (fun h1 => ?_) (fun h1 => ?_)
    · refine C_sk ?_
      refine E_tn [(0, (eL e_api_Edge l0)), (5, (eL (eL e_api_Value) rows5)), (6, (eInt .i64 i6))] ?_
      refine C_sq ?_
      refine C_bk 3 ?_
      refine C_sq ?_
      refine C_rg ttOk 8 ?_
      obtain ⟨c6, h1⟩ := asrtE h1
      refine R_ps 5 [0 ≤ i6 ∧ i6 < ((List.length rows5 : Nat) : Int)] ⟨c6, trivial⟩ ?_
      obtain ⟨x7, hx8, h1⟩ := bindE h1
      refine R_cO 19 [(eL e_api_Edge l0), (eL e_api_Value (List.getD rows5 (Int.toNat i6) default))] (eL e_api_Jump x7) (w_ref10_Jumps l0 (List.getD rows5 (Int.toNat i6) default) _ hx8) hO ?_
      intro H hO
      refine R_al ?_
      refine E_ad [] [(88, (eBool (decide ((1024 : Int) < ((List.length x7 : Nat) : Int)))))] ?_
      refine C_cd h1 (fun h1 => ?_) (fun h1 => ?_)
      · refine S_tn ttOk 1 [(2, (eBool false))] ?_
        refine C_rt ?_
        obtain rfl := Option.some.inj h1
        obtain rfl : _ = rr0 := ho0
        replace h0 : some false = some r := h0
        obtain rfl := Option.some.inj h0
        exact E_done (blockA_ret (thenA_ret (thenA_ret (blockA_ret (thenA_ret (Q_ret (x := (eBool false)) (by kernel_rfl) (SubV.refl _) ⟨rfl, hO.out⟩))))))
      refine C_sk ?_
      refine E_hk [(0, (eL e_api_Edge l0)), (5, (eL (eL e_api_Value) rows5)), (6, (eInt .i64 i6))] ?_
      refine E_done (blockA_normal (thenA_normal (?_)))
      refine C_rg ttOk 3 ?_
      refine R_al ?_
      exact E_done (thenA_normal (⟨rfl, IntKind.i64.wrap (i6 + (1 : Int)), (Option.some.inj h1).symm, .eq (by kernel_rfl), hO⟩))
    refine C_ex 2 ?_
    obtain rfl := Option.some.inj h1
    obtain rfl : _ = rr0 := ho0
    replace h0 : ref10_May_j2  = some r := h0
    exact E_done (thenA_exit (thenA_exit (blockA_hit (thenA_normal (⟨rfl, .eq (by kernel_rfl), hO, h0⟩)))))
  refine S_al ttOk 1 [] [(3, (eInt .i64 (0 : Int)))] ?_
  refine C_bk 0 ?_
  refine C_hk [(0, (eL e_api_Edge l0)), (3, (eInt .i64 (0 : Int)))] ?_
  refine C_cut (fun T H => ∃ i3 : Int, Has T [(0, (eL e_api_Edge l0)), (3, (eInt .i64 i3))] ∧ Owns ⟨H0, [], []⟩ H [] ∧ ref10_May_h4 l0 i3 = some r) ?_ ⟨(0 : Int), .eq (by kernel_rfl), hO, h0⟩
  clear hO h0
  rintro T H ⟨i3, hT, hO, h0⟩
  refine C_has hT ?_
  clear hT
  unfold ref10_May_h4 at h0
  obtain ⟨rr0, hl0, h0⟩ := bindE h0
  refine C_loopS (by kernel_rfl) (fun (s : Int) T H => Has T [(0, (eL e_api_Edge l0)), (3, (eInt .i64 s))] ∧ Owns ⟨H0, [], []⟩ H []) hl0 ⟨.eq (by kernel_rfl), hO⟩ ?_
  clear hO
  rintro k0 s out1 T H ⟨hT, hO⟩ h1 ho0
  obtain ⟨i3, rfl⟩ : ∃ x, x = s := ⟨_, rfl⟩
  replace h1 : ref10_May_l4 l0 i3 = some out1 := h1
  refine C_has hT ?_
  clear hT
  unfold ref10_May_l4 at h1
  refine C_sq ?_
  refine S_al ttOk 4 [] [(13, (eBool (decide (i3 < ((List.length l0 : Nat) : Int)))))] ?_
  refine C_cd h1 (fun h1 => ?_) (fun h1 => ?_)
  · refine C_sk ?_
    refine E_tn [(0, (eL e_api_Edge l0)), (3, (eInt .i64 i3))] ?_
    refine C_sj (fun T H => Has T [(0, (eL e_api_Edge l0)), (3, (eInt .i64 i3))] ∧ Owns ⟨H0, [], []⟩ H [] ∧ ref10_May_j5 l0 i3 = some out1) ?_ ?_
    · clear hO h1
      rintro T H ⟨hT, hO, h1⟩
      refine C_has hT ?_
      clear hT
      unfold ref10_May_j5 at h1
      refine C_rg ttOk 3 ?_
      refine R_al ?_
      exact E_done (thenA_normal (⟨rfl, IntKind.i64.wrap (i3 + (1 : Int)), (Option.some.inj h1).symm, .eq (by kernel_rfl), hO⟩))
    refine C_bk 1 ?_
    refine C_sq ?_
    refine C_sq ?_
    obtain ⟨c12, h1⟩ := asrtE h1
    obtain ⟨x13, hx14, h1⟩ := bindE h1
    obtain ⟨c15, h1⟩ := asrtE h1
    obtain ⟨c16, h1⟩ := asrtE h1
    obtain ⟨x17, hx18, h1⟩ := bindE h1
    refine C_dg (plOf [20, 28, 33]) ttOk 23 ?_
    refine D_mono (K := fun T H => Has (lift T) [(0, (eL e_api_Edge l0)), (3, (eInt .i64 i3)), (38, (eBool ((!x13) || (!x17))))] ∧ Owns ⟨H0, [], []⟩ H []) ?_ ?_
    · refine D_ps 5 [0 ≤ i3 ∧ i3 < ((List.length l0 : Nat) : Int)] ⟨c12, trivial⟩ ?_
      refine D_callV 32 [(eL e_api_Value ((List.getD l0 (Int.toNat i3) default).Row))] (eBool x13) (by kernel_rfl) (by kernel_rfl) (w_ref06_May ((List.getD l0 (Int.toNat i3) default).Row) _ hx14) hO ?_
      intro H hO
      refine D_pu 8 ?_
      refine D_split (t := 23) (e := !x13) (by kernel_rfl) (fun hg19 => ?_) (fun hg19 => ?_)
      · refine D_al ?_
        exact ⟨⟨[(0, (eL e_api_Edge l0)), (3, (eInt .i64 i3)), (38, (eBool true))], by kernel_rfl, rfl, ⟨SubV.refl _, SubV.refl _, SubV.eq (by first | (simp only [eBool, hg19, Bool.not_true, Bool.not_false, Bool.true_and, Bool.and_true, Bool.false_and, Bool.and_false, Bool.or_true, Bool.true_or, Bool.or_false, Bool.false_or, cond_true, cond_false]; done) | simp [eBool, hg19]), trivial⟩⟩, hO⟩
      refine D_ps 19 [0 ≤ i3 ∧ i3 < ((List.length l0 : Nat) : Int), 0 ≤ i3 ∧ i3 < ((List.length l0 : Nat) : Int)] ⟨(c15 (by first | (simp only [hg19, Bool.not_true, Bool.not_false, Bool.true_and, Bool.and_true, Bool.false_and, Bool.and_false, Bool.or_true, Bool.true_or, Bool.or_false, Bool.false_or, cond_true, cond_false]; done) | simp [hg19])), (c16 (by first | (simp only [hg19, Bool.not_true, Bool.not_false, Bool.true_and, Bool.and_true, Bool.false_and, Bool.and_false, Bool.or_true, Bool.true_or, Bool.or_false, Bool.false_or, cond_true, cond_false]; done) | simp [hg19])), trivial⟩ ?_
      refine D_bslV (xs := [(e_api_Jump (api_Jump.mk ((List.getD l0 (Int.toNat i3) default).At) ((List.getD l0 (Int.toNat i3) default).Net)))]) (by kernel_rfl) (by kernel_rfl) ?_
      refine D_callV 33 [(frozenOf [(e_api_Jump (api_Jump.mk ((List.getD l0 (Int.toNat i3) default).At) ((List.getD l0 (Int.toNat i3) default).Net)))])] (eBool x17) (by kernel_rfl) (by kernel_rfl) (Fine.sub (w_ref09_May ([api_Jump.mk ((List.getD l0 (Int.toNat i3) default).At) ((List.getD l0 (Int.toNat i3) default).Net)]) _ (gcallE hx18 (by first | (simp only [hg19, Bool.not_true, Bool.not_false, Bool.true_and, Bool.and_true, Bool.false_and, Bool.and_false, Bool.or_true, Bool.true_or, Bool.or_false, Bool.false_or, cond_true, cond_false]; done) | simp [hg19]))) ⟨subLit (l := [api_Jump.mk ((List.getD l0 (Int.toNat i3) default).At) ((List.getD l0 (Int.toNat i3) default).Net)]), trivial⟩) hO ?_
      intro H hO
      refine D_al ?_
      exact ⟨⟨[(0, (eL e_api_Edge l0)), (3, (eInt .i64 i3)), (38, (eBool (!x17)))], by kernel_rfl, rfl, ⟨SubV.refl _, SubV.refl _, SubV.eq (by first | (simp only [eBool, hg19, Bool.not_true, Bool.not_false, Bool.true_and, Bool.and_true, Bool.false_and, Bool.and_false, Bool.or_true, Bool.true_or, Bool.or_false, Bool.false_or, cond_true, cond_false]; done) | simp [eBool, hg19]), trivial⟩⟩, hO⟩
    · rintro T H ⟨hT, hO⟩
      refine E_has hT ?_
      clear hT
      refine E_done (thenA_normal ?_)
      refine C_cd h1 (fun h1 => ?_) (fun h1 => ?_)
      · refine S_tn ttOk 1 [(2, (eBool false))] ?_
        refine C_rt ?_
        obtain rfl := Option.some.inj h1
        obtain rfl : _ = rr0 := ho0
        replace h0 : some false = some r := h0
        obtain rfl := Option.some.inj h0
        exact E_done (thenA_ret (blockA_ret (thenA_ret (thenA_ret (blockA_ret (thenA_ret (Q_ret (x := (eBool false)) (by kernel_rfl) (SubV.refl _) ⟨rfl, hO.out⟩)))))))
      refine C_sk ?_
      refine E_tn [(0, (eL e_api_Edge l0)), (3, (eInt .i64 i3))] ?_
      refine C_sq ?_
      refine S_al ttOk 2 [] [(40, (eBool (decide (i3 = (0 : Int)))))] ?_
      refine C_cd h1 (fun h1 => ?_) (fun h1 => ?_)
      · refine C_ex 1 ?_
        exact E_done (thenA_exit (blockA_hit (thenA_normal (⟨rfl, .eq (by kernel_rfl), hO, h1⟩))))
      refine C_sk ?_
      refine E_tn [(0, (eL e_api_Edge l0)), (3, (eInt .i64 i3))] ?_
      refine C_sq ?_
      refine C_dg (plOf [46, 51]) ttOk 13 ?_
      obtain ⟨c22, h1⟩ := asrtE h1
      obtain ⟨c23, h1⟩ := asrtE h1
      refine D_ps 11 [0 ≤ (IntKind.i64.wrap (i3 - (1 : Int))) ∧ (IntKind.i64.wrap (i3 - (1 : Int))) < ((List.length l0 : Nat) : Int), 0 ≤ i3 ∧ i3 < ((List.length l0 : Nat) : Int)] ⟨c22, c23, trivial⟩ ?_
      obtain ⟨x24, hx25, h1⟩ := bindE h1
      refine D_callO 68 [(eL e_api_Value ((List.getD l0 (Int.toNat (IntKind.i64.wrap (i3 - (1 : Int)))) default).Row)), (eL e_api_Value ((List.getD l0 (Int.toNat i3) default).Row))] (eInt .i64 x24) (by kernel_rfl) (by kernel_rfl) (w_ref06_Compare ((List.getD l0 (Int.toNat (IntKind.i64.wrap (i3 - (1 : Int)))) default).Row) ((List.getD l0 (Int.toNat i3) default).Row) _ hx25) hO ?_
      intro H hO
      refine D_al ?_
      refine E_ad [] [(4, (eInt .i64 x24))] ?_
      refine C_sq ?_
      obtain ⟨c27, h1⟩ := asrtE h1
      obtain ⟨c28, h1⟩ := asrtE h1
      refine C_dg (plOf [64, 69]) ttOk 20 ?_
      refine D_mono (K := fun T H => Has (lift T) [(0, (eL e_api_Edge l0)), (3, (eInt .i64 i3)), (72, (eBool ((decide ((0 : Int) < x24)) || ((decide (x24 = (0 : Int))) && (decide (((List.getD l0 (Int.toNat i3) default).At) ≤ ((List.getD l0 (Int.toNat (IntKind.i64.wrap (i3 - (1 : Int)))) default).At)))))))] ∧ Owns ⟨H0, [], []⟩ H []) ?_ ?_
      · refine D_pu 3 ?_
        refine D_split (t := 55) (e := decide ((0 : Int) < x24)) (by kernel_rfl) (fun hg29 => ?_) (fun hg29 => ?_)
        · refine D_al ?_
          exact ⟨⟨[(0, (eL e_api_Edge l0)), (3, (eInt .i64 i3)), (72, (eBool true))], by kernel_rfl, rfl, ⟨SubV.refl _, SubV.refl _, SubV.eq (by first | (simp only [eBool, hg29, Bool.not_true, Bool.not_false, Bool.true_and, Bool.and_true, Bool.false_and, Bool.and_false, Bool.or_true, Bool.true_or, Bool.or_false, Bool.false_or, cond_true, cond_false]; done) | simp [eBool, hg29]), trivial⟩⟩, hO⟩
        refine D_pu 6 ?_
        refine D_split (t := 58) (e := decide (x24 = (0 : Int))) (by kernel_rfl) (fun hg30 => ?_) (fun hg30 => ?_)
        · refine D_all (Ds := [0 ≤ (IntKind.i64.wrap (i3 - (1 : Int))) ∧ (IntKind.i64.wrap (i3 - (1 : Int))) < ((List.length l0 : Nat) : Int), 0 ≤ i3 ∧ i3 < ((List.length l0 : Nat) : Int)]) (by kernel_rfl) ⟨(c27 (by first | (simp only [hg29, hg30, Bool.not_true, Bool.not_false, Bool.true_and, Bool.and_true, Bool.false_and, Bool.and_false, Bool.or_true, Bool.true_or, Bool.or_false, Bool.false_or, cond_true, cond_false]; done) | simp [hg29, hg30])), (c28 (by first | (simp only [hg29, hg30, Bool.not_true, Bool.not_false, Bool.true_and, Bool.and_true, Bool.false_and, Bool.and_false, Bool.or_true, Bool.true_or, Bool.or_false, Bool.false_or, cond_true, cond_false]; done) | simp [hg29, hg30])), trivial⟩ ?_
          exact ⟨⟨[(0, (eL e_api_Edge l0)), (3, (eInt .i64 i3)), (72, (eBool (decide (((List.getD l0 (Int.toNat i3) default).At) ≤ ((List.getD l0 (Int.toNat (IntKind.i64.wrap (i3 - (1 : Int)))) default).At)))))], by kernel_rfl, rfl, ⟨SubV.refl _, SubV.refl _, SubV.eq (by first | (simp only [eBool, hg29, hg30, Bool.not_true, Bool.not_false, Bool.true_and, Bool.and_true, Bool.false_and, Bool.and_false, Bool.or_true, Bool.true_or, Bool.or_false, Bool.false_or, cond_true, cond_false]; done) | simp [eBool, hg29, hg30]), trivial⟩⟩, hO⟩
        refine D_al ?_
        exact ⟨⟨[(0, (eL e_api_Edge l0)), (3, (eInt .i64 i3)), (72, (eBool false))], by kernel_rfl, rfl, ⟨SubV.refl _, SubV.refl _, SubV.eq (by first | (simp only [eBool, hg29, hg30, Bool.not_true, Bool.not_false, Bool.true_and, Bool.and_true, Bool.false_and, Bool.and_false, Bool.or_true, Bool.true_or, Bool.or_false, Bool.false_or, cond_true, cond_false]; done) | simp [eBool, hg29, hg30]), trivial⟩⟩, hO⟩
      · rintro T H ⟨hT, hO⟩
        refine E_has hT ?_
        clear hT
        refine E_done (thenA_normal ?_)
        refine C_cd h1 (fun h1 => ?_) (fun h1 => ?_)
        · refine S_tn ttOk 1 [(2, (eBool false))] ?_
          refine C_rt ?_
          obtain rfl := Option.some.inj h1
          obtain rfl : _ = rr0 := ho0
          replace h0 : some false = some r := h0
          obtain rfl := Option.some.inj h0
          exact E_done (blockA_ret (thenA_ret (thenA_ret (blockA_ret (thenA_ret (Q_ret (x := (eBool false)) (by kernel_rfl) (SubV.refl _) ⟨rfl, hO.out⟩))))))
        refine C_sk ?_
        exact E_done (blockA_normal (thenA_normal (⟨rfl, .eq (by kernel_rfl), hO, h1⟩)))
  refine C_ex 0 ?_
  obtain rfl := Option.some.inj h1
  obtain rfl : _ = rr0 := ho0
  replace h0 : ref10_May_j1 l0 = some r := h0
  exact E_done (thenA_exit (thenA_exit (blockA_hit (thenA_normal (⟨rfl, .eq (by kernel_rfl), hO, h0⟩)))))

theorem w_ref09_Value (f0 : (List api_Jump)) (t1 : Int) (r : Int) (h0 : s_ref09_Value f0 t1 = some r) : Fine Try.prog 20 [(eL e_api_Jump f0), (eInt .i64 t1)] (eInt .i64 r) := by
  intro H0
  refine F_wk Try.func20 ?_
  have hO := Owns.start H0
  unfold s_ref09_Value at h0
  refine S_al ttOk 1 [] [] ?_
  refine S_al ttOk 1 [] [(5, (eInt .i64 (0 : Int)))] ?_
  refine C_sj (fun T H => ∃ v5 : Int, Has T [(5, (eInt .i64 v5))] ∧ Owns ⟨H0, [], []⟩ H [] ∧ ref09_Value_j1 v5 = some r) ?_ ?_
  · clear hO h0
    rintro T H ⟨v5, hT, hO, h0⟩
    refine C_has hT ?_
    clear hT
    unfold ref09_Value_j1 at h0
    refine S_tn ttOk 2 [(4, (eInt .i64 v5))] ?_
    refine C_rt ?_
    obtain rfl := Option.some.inj h0
    exact E_done (Q_ret (x := (eInt .i64 v5)) (by kernel_rfl) (SubV.refl _) ⟨rfl, hO.out⟩)
  refine S_al ttOk 1 [] [(6, (eInt .i64 (0 : Int)))] ?_
  refine C_bk 0 ?_
  refine C_hk [(0, (eL e_api_Jump f0)), (1, (eInt .i64 t1)), (5, (eInt .i64 (0 : Int))), (6, (eInt .i64 (0 : Int)))] ?_
  refine C_cut (fun T H => ∃ v5 : Int, ∃ i6 : Int, Has T [(0, (eL e_api_Jump f0)), (1, (eInt .i64 t1)), (5, (eInt .i64 v5)), (6, (eInt .i64 i6))] ∧ Owns ⟨H0, [], []⟩ H [] ∧ ref09_Value_h2 f0 t1 v5 i6 = some r) ?_ ⟨(0 : Int), (0 : Int), .eq (by kernel_rfl), hO, h0⟩
  clear hO h0
  rintro T H ⟨v5, i6, hT, hO, h0⟩
  refine C_has hT ?_
  clear hT
  unfold ref09_Value_h2 at h0
  obtain ⟨rr0, hl0, h0⟩ := bindE h0
  refine C_loopS (by kernel_rfl) (fun (s : Int × Int) T H => Has T [(0, (eL e_api_Jump f0)), (1, (eInt .i64 t1)), (5, (eInt .i64 s.1)), (6, (eInt .i64 s.2))] ∧ Owns ⟨H0, [], []⟩ H []) hl0 ⟨.eq (by kernel_rfl), hO⟩ ?_
  clear hO
  rintro k0 s out1 T H ⟨hT, hO⟩ h1 ho0
  obtain ⟨v5, i6⟩ := s
  replace h1 : ref09_Value_l2 f0 t1 v5 i6 = some out1 := h1
  dsimp only at hT
  refine C_has hT ?_
  clear hT
  unfold ref09_Value_l2 at h1
  refine C_sq ?_
  refine S_al ttOk 4 [] [(10, (eBool (decide (i6 < ((List.length f0 : Nat) : Int)))))] ?_
  refine C_cd h1 (fun h1 => ?_) (fun h1 => ?_)
  · refine C_sk ?_
    refine E_tn [(0, (eL e_api_Jump f0)), (1, (eInt .i64 t1)), (5, (eInt .i64 v5)), (6, (eInt .i64 i6))] ?_
    refine C_sj (fun T H => ∃ v5 : Int, Has T [(0, (eL e_api_Jump f0)), (1, (eInt .i64 t1)), (5, (eInt .i64 v5)), (6, (eInt .i64 i6))] ∧ Owns ⟨H0, [], []⟩ H [] ∧ ref09_Value_j3 f0 t1 v5 i6 = some out1) ?_ ?_
    · clear hO h1
      rintro T H ⟨v5, hT, hO, h1⟩
      refine C_has hT ?_
      clear hT
      unfold ref09_Value_j3 at h1
      refine C_rg ttOk 3 ?_
      refine R_al ?_
      exact E_done (thenA_normal (⟨rfl, (v5, IntKind.i64.wrap (i6 + (1 : Int))), (Option.some.inj h1).symm, .eq (by kernel_rfl), hO⟩))
    refine C_bk 1 ?_
    refine C_sq ?_
    refine C_rg ttOk 7 ?_
    obtain ⟨c2, h1⟩ := asrtE h1
    refine R_as [0 ≤ i6 ∧ i6 < ((List.length f0 : Nat) : Int)] ⟨c2, trivial⟩ ?_
    refine E_ad [] [(19, (eBool (decide (((List.getD f0 (Int.toNat i6) default).At) ≤ t1))))] ?_
    refine C_cd h1 (fun h1 => ?_) (fun h1 => ?_)
    · refine C_rg ttOk 8 ?_
      obtain ⟨c4, h1⟩ := asrtE h1
      refine R_as [0 ≤ i6 ∧ i6 < ((List.length f0 : Nat) : Int)] ⟨c4, trivial⟩ ?_
      exact E_done (blockA_normal (thenA_normal (⟨rfl, IntKind.i64.wrap (v5 + ((List.getD f0 (Int.toNat i6) default).Net)), .eq (by kernel_rfl), hO, h1⟩)))
    refine C_sk ?_
    exact E_done (blockA_normal (thenA_normal (⟨rfl, v5, .eq (by kernel_rfl), hO, h1⟩)))
  refine C_ex 0 ?_
  obtain rfl := Option.some.inj h1
  obtain rfl : _ = rr0 := ho0
  replace h0 : ref09_Value_j1 v5 = some r := h0
  exact E_done (thenA_exit (thenA_exit (blockA_hit (thenA_normal (⟨rfl, v5, .eq (by kernel_rfl), hO, h0⟩)))))

theorem w_ref09_Least (f0 : (List api_Jump)) (r : Int) (h0 : s_ref09_Least f0 = some r) : Fine Try.prog 67 [(eL e_api_Jump f0)] (eInt .i64 r) := by
  intro H0
  refine F_wk Try.func67 ?_
  have hO := Owns.start H0
  unfold s_ref09_Least at h0
  refine S_al ttOk 1 [] [] ?_
  refine C_sq ?_
  refine C_sq ?_
  refine C_rg ttOk 3 ?_
  refine R_pu 1 ?_
  obtain ⟨x1, hx2, h0⟩ := bindE h0
  refine R_cO 33 [(eL e_api_Jump f0)] (eBool x1) (w_ref09_May f0 _ hx2) hO ?_
  intro H hO
  refine R_al ?_
  refine E_ad [] [(7, (eBool (!x1)))] ?_
  refine C_cd h0 (fun h0 => ?_) (fun h0 => ?_)
  · refine S_tn ttOk 1 [(2, (eInt .i64 (0 : Int)))] ?_
    refine C_rt ?_
    obtain rfl := Option.some.inj h0
    exact E_done (thenA_ret (Q_ret (x := (eInt .i64 (0 : Int))) (by kernel_rfl) (SubV.refl _) ⟨rfl, hO.out⟩))
  refine C_sk ?_
  refine E_tn [(0, (eL e_api_Jump f0))] ?_
  refine C_sq ?_
  refine C_rg ttOk 3 ?_
  refine R_pu 1 ?_
  obtain ⟨x5, hx6, h0⟩ := bindE h0
  refine R_cO 20 [(eL e_api_Jump f0), (eInt .i64 (-1 : Int))] (eInt .i64 x5) (w_ref09_Value f0 (-1 : Int) _ hx6) hO ?_
  intro H hO
  refine R_al ?_
  refine E_ad [] [(3, (eInt .i64 x5))] ?_
  refine C_sj (fun T H => ∃ m3 : Int, Has T [(3, (eInt .i64 m3))] ∧ Owns ⟨H0, [], []⟩ H [] ∧ ref09_Least_j1 m3 = some r) ?_ ?_
  · clear hO h0
    rintro T H ⟨m3, hT, hO, h0⟩
    refine C_has hT ?_
    clear hT
    unfold ref09_Least_j1 at h0
    refine S_tn ttOk 2 [(2, (eInt .i64 m3))] ?_
    refine C_rt ?_
    obtain rfl := Option.some.inj h0
    exact E_done (Q_ret (x := (eInt .i64 m3)) (by kernel_rfl) (SubV.refl _) ⟨rfl, hO.out⟩)
  refine S_al ttOk 1 [] [(4, (eInt .i64 (0 : Int)))] ?_
  refine C_bk 0 ?_
  refine C_hk [(0, (eL e_api_Jump f0)), (3, (eInt .i64 x5)), (4, (eInt .i64 (0 : Int)))] ?_
  refine C_cut (fun T H => ∃ m3 : Int, ∃ i4 : Int, Has T [(0, (eL e_api_Jump f0)), (3, (eInt .i64 m3)), (4, (eInt .i64 i4))] ∧ Owns ⟨H0, [], []⟩ H [] ∧ ref09_Least_h2 f0 m3 i4 = some r) ?_ ⟨x5, (0 : Int), .eq (by kernel_rfl), hO, h0⟩
  clear hO h0
  rintro T H ⟨m3, i4, hT, hO, h0⟩
  refine C_has hT ?_
  clear hT
  unfold ref09_Least_h2 at h0
  obtain ⟨rr0, hl0, h0⟩ := bindE h0
  refine C_loopS (by kernel_rfl) (fun (s : Int × Int) T H => Has T [(0, (eL e_api_Jump f0)), (3, (eInt .i64 s.1)), (4, (eInt .i64 s.2))] ∧ Owns ⟨H0, [], []⟩ H []) hl0 ⟨.eq (by kernel_rfl), hO⟩ ?_
  clear hO
  rintro k0 s out1 T H ⟨hT, hO⟩ h1 ho0
  obtain ⟨m3, i4⟩ := s
  replace h1 : ref09_Least_l2 f0 m3 i4 = some out1 := h1
  dsimp only at hT
  refine C_has hT ?_
  clear hT
  unfold ref09_Least_l2 at h1
  refine C_sq ?_
  refine S_al ttOk 4 [] [(13, (eBool (decide (i4 < ((List.length f0 : Nat) : Int)))))] ?_
  refine C_cd h1 (fun h1 => ?_) (fun h1 => ?_)
  · refine C_sk ?_
    refine E_tn [(0, (eL e_api_Jump f0)), (3, (eInt .i64 m3)), (4, (eInt .i64 i4))] ?_
    refine C_sj (fun T H => ∃ m3 : Int, Has T [(0, (eL e_api_Jump f0)), (3, (eInt .i64 m3)), (4, (eInt .i64 i4))] ∧ Owns ⟨H0, [], []⟩ H [] ∧ ref09_Least_j3 f0 m3 i4 = some out1) ?_ ?_
    · clear hO h1
      rintro T H ⟨m3, hT, hO, h1⟩
      refine C_has hT ?_
      clear hT
      unfold ref09_Least_j3 at h1
      refine C_rg ttOk 3 ?_
      refine R_al ?_
      exact E_done (thenA_normal (⟨rfl, (m3, IntKind.i64.wrap (i4 + (1 : Int))), (Option.some.inj h1).symm, .eq (by kernel_rfl), hO⟩))
    refine C_bk 1 ?_
    refine C_sq ?_
    refine C_rg ttOk 9 ?_
    obtain ⟨c9, h1⟩ := asrtE h1
    refine R_ps 6 [0 ≤ i4 ∧ i4 < ((List.length f0 : Nat) : Int)] ⟨c9, trivial⟩ ?_
    obtain ⟨x10, hx11, h1⟩ := bindE h1
    refine R_cO 20 [(eL e_api_Jump f0), (eInt .i64 ((List.getD f0 (Int.toNat i4) default).At))] (eInt .i64 x10) (w_ref09_Value f0 ((List.getD f0 (Int.toNat i4) default).At) _ hx11) hO ?_
    intro H hO
    refine R_al ?_
    refine E_ad [] [(24, (eBool (decide (x10 < m3))))] ?_
    refine C_cd h1 (fun h1 => ?_) (fun h1 => ?_)
    · refine C_rg ttOk 8 ?_
      obtain ⟨c14, h1⟩ := asrtE h1
      refine R_ps 6 [0 ≤ i4 ∧ i4 < ((List.length f0 : Nat) : Int)] ⟨c14, trivial⟩ ?_
      obtain ⟨x15, hx16, h1⟩ := bindE h1
      refine R_cO 20 [(eL e_api_Jump f0), (eInt .i64 ((List.getD f0 (Int.toNat i4) default).At))] (eInt .i64 x15) (w_ref09_Value f0 ((List.getD f0 (Int.toNat i4) default).At) _ hx16) hO ?_
      intro H hO
      refine R_al ?_
      exact E_done (blockA_normal (thenA_normal (⟨rfl, x15, .eq (by kernel_rfl), hO, h1⟩)))
    refine C_sk ?_
    exact E_done (blockA_normal (thenA_normal (⟨rfl, m3, .eq (by kernel_rfl), hO, h1⟩)))
  refine C_ex 0 ?_
  obtain rfl := Option.some.inj h1
  obtain rfl : _ = rr0 := ho0
  replace h0 : ref09_Least_j1 m3 = some r := h0
  exact E_done (thenA_exit (thenA_exit (blockA_hit (thenA_normal (⟨rfl, m3, .eq (by kernel_rfl), hO, h0⟩)))))

theorem w_ref10_Table (l0 : (List api_Edge)) (r : Bool) (h0 : s_ref10_Table l0 = some r) : Fine Try.prog 26 [(eL e_api_Edge l0)] (eBool r) := by
  intro H0
  refine F_wk Try.func26 ?_
  have hO := Owns.start H0
  unfold s_ref10_Table at h0
  refine S_al ttOk 1 [] [] ?_
  refine C_sq ?_
  refine C_sq ?_
  refine C_rg ttOk 3 ?_
  refine R_pu 1 ?_
  obtain ⟨x1, hx2, h0⟩ := bindE h0
  refine R_cO 27 [(eL e_api_Edge l0)] (eBool x1) (w_ref10_May l0 _ hx2) hO ?_
  intro H hO
  refine R_al ?_
  refine E_ad [] [(7, (eBool (!x1)))] ?_
  refine C_cd h0 (fun h0 => ?_) (fun h0 => ?_)
  · refine S_tn ttOk 1 [(2, (eBool false))] ?_
    refine C_rt ?_
    obtain rfl := Option.some.inj h0
    exact E_done (thenA_ret (Q_ret (x := (eBool false)) (by kernel_rfl) (SubV.refl _) ⟨rfl, hO.out⟩))
  refine C_sk ?_
  refine E_tn [(0, (eL e_api_Edge l0))] ?_
  refine C_sq ?_
  refine C_rg ttOk 3 ?_
  refine R_pu 1 ?_
  obtain ⟨x5, hx6, h0⟩ := bindE h0
  refine R_cO 45 [(eL e_api_Edge l0)] (eL (eL e_api_Value) x5) (w_ref10_Rows l0 _ hx6) hO ?_
  intro H hO
  refine R_al ?_
  refine E_ad [] [(3, (eL (eL e_api_Value) x5))] ?_
  refine C_sj (fun T H => Has T [] ∧ Owns ⟨H0, [], []⟩ H [] ∧ ref10_Table_j1  = some r) ?_ ?_
  · clear hO h0
    rintro T H ⟨hT, hO, h0⟩
    refine C_has hT ?_
    clear hT
    unfold ref10_Table_j1 at h0
    refine S_tn ttOk 1 [(2, (eBool true))] ?_
    refine C_rt ?_
    obtain rfl := Option.some.inj h0
    exact E_done (Q_ret (x := (eBool true)) (by kernel_rfl) (SubV.refl _) ⟨rfl, hO.out⟩)
  refine S_al ttOk 1 [] [(4, (eInt .i64 (0 : Int)))] ?_
  refine C_bk 0 ?_
  refine C_hk [(0, (eL e_api_Edge l0)), (3, (eL (eL e_api_Value) x5)), (4, (eInt .i64 (0 : Int)))] ?_
  refine C_cut (fun T H => ∃ rows3 : (List (List api_Value)), ∃ i4 : Int, Has T [(0, (eL e_api_Edge l0)), (3, (eL (eL e_api_Value) rows3)), (4, (eInt .i64 i4))] ∧ Owns ⟨H0, [], []⟩ H [] ∧ ref10_Table_h2 l0 rows3 i4 = some r) ?_ ⟨x5, (0 : Int), .eq (by kernel_rfl), hO, h0⟩
  clear hO h0
  rintro T H ⟨rows3, i4, hT, hO, h0⟩
  refine C_has hT ?_
  clear hT
  unfold ref10_Table_h2 at h0
  obtain ⟨rr0, hl0, h0⟩ := bindE h0
  refine C_loopS (by kernel_rfl) (fun (s : Int) T H => Has T [(0, (eL e_api_Edge l0)), (3, (eL (eL e_api_Value) rows3)), (4, (eInt .i64 s))] ∧ Owns ⟨H0, [], []⟩ H []) hl0 ⟨.eq (by kernel_rfl), hO⟩ ?_
  clear hO
  rintro k0 s out1 T H ⟨hT, hO⟩ h1 ho0
  obtain ⟨i4, rfl⟩ : ∃ x, x = s := ⟨_, rfl⟩
  replace h1 : ref10_Table_l2 l0 rows3 i4 = some out1 := h1
  refine C_has hT ?_
  clear hT
  unfold ref10_Table_l2 at h1
  refine C_sq ?_
  refine S_al ttOk 4 [] [(13, (eBool (decide (i4 < ((List.length rows3 : Nat) : Int)))))] ?_
  refine C_cd h1 (fun h1 => ?_) (fun h1 => ?_)
  · refine C_sk ?_
    refine E_tn [(0, (eL e_api_Edge l0)), (3, (eL (eL e_api_Value) rows3)), (4, (eInt .i64 i4))] ?_
    refine C_sq ?_
    refine C_bk 1 ?_
    refine C_sq ?_
    refine C_rg ttOk 8 ?_
    obtain ⟨c9, h1⟩ := asrtE h1
    refine R_ps 5 [0 ≤ i4 ∧ i4 < ((List.length rows3 : Nat) : Int)] ⟨c9, trivial⟩ ?_
    obtain ⟨x10, hx11, h1⟩ := bindE h1
    refine R_cO 19 [(eL e_api_Edge l0), (eL e_api_Value (List.getD rows3 (Int.toNat i4) default))] (eL e_api_Jump x10) (w_ref10_Jumps l0 (List.getD rows3 (Int.toNat i4) default) _ hx11) hO ?_
    intro H hO
    obtain ⟨x13, hx14, h1⟩ := bindE h1
    refine R_cO 67 [(eL e_api_Jump x10)] (eInt .i64 x13) (w_ref09_Least x10 _ hx14) hO ?_
    intro H hO
    refine R_al ?_
    refine E_ad [] [(23, (eBool (decide (x13 < (0 : Int)))))] ?_
    refine C_cd h1 (fun h1 => ?_) (fun h1 => ?_)
    · refine S_tn ttOk 1 [(2, (eBool false))] ?_
      refine C_rt ?_
      obtain rfl := Option.some.inj h1
      obtain rfl : _ = rr0 := ho0
      replace h0 : some false = some r := h0
      obtain rfl := Option.some.inj h0
      exact E_done (blockA_ret (thenA_ret (thenA_ret (blockA_ret (thenA_ret (Q_ret (x := (eBool false)) (by kernel_rfl) (SubV.refl _) ⟨rfl, hO.out⟩))))))
    refine C_sk ?_
    refine E_hk [(0, (eL e_api_Edge l0)), (3, (eL (eL e_api_Value) rows3)), (4, (eInt .i64 i4))] ?_
    refine E_done (blockA_normal (thenA_normal (?_)))
    refine C_rg ttOk 3 ?_
    refine R_al ?_
    exact E_done (thenA_normal (⟨rfl, IntKind.i64.wrap (i4 + (1 : Int)), (Option.some.inj h1).symm, .eq (by kernel_rfl), hO⟩))
  refine C_ex 0 ?_
  obtain rfl := Option.some.inj h1
  obtain rfl : _ = rr0 := ho0
  replace h0 : ref10_Table_j1  = some r := h0
  exact E_done (thenA_exit (thenA_exit (blockA_hit (thenA_normal (⟨rfl, .eq (by kernel_rfl), hO, h0⟩)))))

theorem w_ref09_With (l0 : (List Int)) (t1 : Int) (r : (List Int)) (h0 : s_ref09_With l0 t1 = some r) : Fine Try.prog 46 [(eL (eInt .i64) l0), (eInt .i64 t1)] (eL (eInt .i64) r) := by
  intro H0
  refine F_wk Try.func46 ?_
  have hO := Owns.start H0
  unfold s_ref09_With at h0
  refine S_al ttOk 1 [] [] ?_
  refine C_sq ?_
  refine C_rg ttOk 2 ?_
  refine R_bsl (xs := []) (k := 1) (by kernel_rfl) (by kernel_rfl) ?_
  refine R_al ?_
  refine E_ad [] [(5, (.sl true 0 (fun _ => .bad)))] ?_
  refine S_al ttOk 1 [] [(6, (eBool false))] ?_
  refine C_sj (fun T H => ∃ out5 : List Int, ∃ put6 : Bool, ∃ lo1 : Nat, Has T [(1, (eInt .i64 t1)), (5, (.msl 1 lo1 0 (List.length out5))), (6, (eBool put6))] ∧ Owns ⟨H0, [], []⟩ H [(lo1, 1, List.map (eInt .i64) out5)] ∧ ref09_With_j1 t1 out5 put6 = some r) ?_ ?_
  · clear hO h0
    rintro T H ⟨out5, put6, lo1, hT, hO, h0⟩
    refine C_has hT ?_
    clear hT
    unfold ref09_With_j1 at h0
    refine C_sj (fun T H => ∃ out5 : List Int, ∃ lo2 : Nat, Has T [(5, (.msl 1 lo2 0 (List.length out5)))] ∧ Owns ⟨H0, [], []⟩ H [(lo2, 1, List.map (eInt .i64) out5)] ∧ ref09_With_j2 out5 = some r) ?_ ?_
    · clear hO h0
      rintro T H ⟨out5, lo2, hT, hO, h0⟩
      refine C_has hT ?_
      clear hT
      unfold ref09_With_j2 at h0
      refine S_tn ttOk 2 [(4, (.msl 1 lo2 0 (List.length out5)))] ?_
      refine C_rt ?_
      refine E_hk [(4, (.msl 1 lo2 0 (List.length out5)))] ?_
      refine E_freezeO (en := (eInt .i64)) out5 0 0 4 1 lo2 (List.length out5) hO (by kernel_rfl) (by kernel_rfl) (by kernel_rfl) (L' := []) (by kernel_rfl) ?_
      intro H3 hO
      obtain rfl := Option.some.inj h0
      exact E_done (Q_ret (x := (eL (eInt .i64) out5)) (by kernel_rfl) (SubV.refl _) ⟨rfl, hO.out⟩)
    refine S_al ttOk 2 [6] [(44, (eBool (!put6)))] ?_
    refine C_cd h0 (fun h0 => ?_) (fun h0 => ?_)
    · refine C_rg ttOk 5 ?_
      refine R_pu 2 ?_
      refine R_bsl (xs := [(eInt .i64 t1)]) (k := 1) (by kernel_rfl) (by kernel_rfl) ?_
      obtain ⟨c6, h0⟩ := asrtE h0
      refine R_appOL (e := (eInt .i64)) out5 ([t1]) 0 lo1 1 8 (frozenOf [(eInt .i64 t1)]) (fun lo5 => [(lo5, 1, List.map (eInt .i64) (out5 ++ ([t1])))]) (by kernel_rfl) (by kernel_rfl) hO (by kernel_rfl) (by kernel_rfl) c6 (fun _ => by kernel_rfl) ?_
      intro lo5 H hO
      refine R_al ?_
      exact E_done (thenA_normal (⟨rfl, out5 ++ ([t1]), lo5, .eq (by kernel_rfl), hO, h0⟩))
    refine C_sk ?_
    exact E_done (thenA_normal (⟨rfl, out5, lo1, .eq (by kernel_rfl), hO, h0⟩))
  refine S_al ttOk 1 [] [(7, (eInt .i64 (0 : Int)))] ?_
  refine C_bk 0 ?_
  refine C_hk [(0, (eL (eInt .i64) l0)), (1, (eInt .i64 t1)), (5, (.sl true 0 (fun _ => .bad))), (6, (eBool false)), (7, (eInt .i64 (0 : Int)))] ?_
  refine C_ownO (el := (fun _ => .bad)) 2 5 1 hO (by kernel_rfl) ?_
  intro lo20 H21 hO
  refine C_cut (fun T H => ∃ out5 : List Int, ∃ put6 : Bool, ∃ i7 : Int, ∃ lo8 : Nat, Has T [(0, (eL (eInt .i64) l0)), (1, (eInt .i64 t1)), (5, (.msl 1 lo8 0 (List.length out5))), (6, (eBool put6)), (7, (eInt .i64 i7))] ∧ Owns ⟨H0, [], []⟩ H [(lo8, 1, List.map (eInt .i64) out5)] ∧ ref09_With_h3 l0 t1 out5 put6 i7 = some r) ?_ ⟨([] : List Int), false, (0 : Int), lo20, .eq (by kernel_rfl), hO, h0⟩
  clear hO h0
  rintro T H ⟨out5, put6, i7, lo8, hT, hO, h0⟩
  refine C_has hT ?_
  clear hT
  unfold ref09_With_h3 at h0
  obtain ⟨rr0, hl0, h0⟩ := bindE h0
  refine C_loopS (by kernel_rfl) (fun (s : List Int × Bool × Int) T H => ∃ lo8 : Nat, Has T [(0, (eL (eInt .i64) l0)), (1, (eInt .i64 t1)), (5, (.msl 1 lo8 0 (List.length s.1))), (6, (eBool s.2.1)), (7, (eInt .i64 s.2.2))] ∧ Owns ⟨H0, [], []⟩ H [(lo8, 1, List.map (eInt .i64) s.1)]) hl0 ⟨lo8, .eq (by kernel_rfl), hO⟩ ?_
  clear hO
  rintro k0 s out1 T H ⟨lo8, hT, hO⟩ h1 ho0
  obtain ⟨out5, put6, i7⟩ := s
  replace h1 : ref09_With_l3 l0 t1 out5 put6 i7 = some out1 := h1
  dsimp only at hT
  refine C_has hT ?_
  clear hT
  unfold ref09_With_l3 at h1
  refine C_sq ?_
  refine S_al ttOk 4 [] [(12, (eBool (decide (i7 < ((List.length l0 : Nat) : Int)))))] ?_
  refine C_cd h1 (fun h1 => ?_) (fun h1 => ?_)
  · refine C_sk ?_
    refine E_tn [(0, (eL (eInt .i64) l0)), (1, (eInt .i64 t1)), (5, (.msl 1 lo8 0 (List.length out5))), (6, (eBool put6)), (7, (eInt .i64 i7))] ?_
    refine C_sq ?_
    refine C_bk 1 ?_
    refine C_sq ?_
    refine C_sq ?_
    refine C_rg ttOk 6 ?_
    obtain ⟨c10, h1⟩ := asrtE h1
    refine R_as [0 ≤ i7 ∧ i7 < ((List.length l0 : Nat) : Int)] ⟨c10, trivial⟩ ?_
    refine E_ad [] [(20, (eBool (decide ((List.getD l0 (Int.toNat i7) default) = t1))))] ?_
    refine C_cd h1 (fun h1 => ?_) (fun h1 => ?_)
    · refine C_sq ?_
      refine C_rg ttOk 2 ?_
      refine R_al ?_
      refine E_hk [(4, (eL (eInt .i64) l0))] ?_
      replace hO := hO.pick (L' := []) [] (by decide) (by kernel_rfl)
      refine E_done (thenA_normal (?_))
      refine C_rt ?_
      obtain rfl := Option.some.inj h1
      obtain rfl : _ = rr0 := ho0
      replace h0 : some l0 = some r := h0
      obtain rfl := Option.some.inj h0
      exact E_done (thenA_ret (blockA_ret (thenA_ret (thenA_ret (blockA_ret (thenA_ret (Q_ret (x := (eL (eInt .i64) l0)) (by kernel_rfl) (SubV.refl _) ⟨rfl, hO.out⟩)))))))
    refine C_sk ?_
    refine E_tn [(0, (eL (eInt .i64) l0)), (1, (eInt .i64 t1)), (5, (.msl 1 lo8 0 (List.length out5))), (6, (eBool put6)), (7, (eInt .i64 i7))] ?_
    refine C_sj (fun T H => ∃ out5 : List Int, ∃ put6 : Bool, ∃ lo12 : Nat, Has T [(0, (eL (eInt .i64) l0)), (1, (eInt .i64 t1)), (5, (.msl 1 lo12 0 (List.length out5))), (6, (eBool put6)), (7, (eInt .i64 i7))] ∧ Owns ⟨H0, [], []⟩ H [(lo12, 1, List.map (eInt .i64) out5)] ∧ ref09_With_j4 l0 t1 out5 put6 i7 = some out1) ?_ ?_
    · clear hO h1
      rintro T H ⟨out5, put6, lo12, hT, hO, h1⟩
      refine C_has hT ?_
      clear hT
      unfold ref09_With_j4 at h1
      refine C_rg ttOk 8 ?_
      obtain ⟨c13, h1⟩ := asrtE h1
      refine R_ps 5 [0 ≤ i7 ∧ i7 < ((List.length l0 : Nat) : Int)] ⟨c13, trivial⟩ ?_
      refine R_bsl (xs := [(eInt .i64 (List.getD l0 (Int.toNat i7) default))]) (k := 1) (by kernel_rfl) (by kernel_rfl) ?_
      obtain ⟨c15, h1⟩ := asrtE h1
      refine R_appOL (e := (eInt .i64)) out5 ([List.getD l0 (Int.toNat i7) default]) 0 lo12 1 8 (frozenOf [(eInt .i64 (List.getD l0 (Int.toNat i7) default))]) (fun lo14 => [(lo14, 1, List.map (eInt .i64) (out5 ++ ([List.getD l0 (Int.toNat i7) default])))]) (by kernel_rfl) (by kernel_rfl) hO (by kernel_rfl) (by kernel_rfl) c15 (fun _ => by kernel_rfl) ?_
      intro lo14 H hO
      refine R_al ?_
      refine E_hk [(0, (eL (eInt .i64) l0)), (1, (eInt .i64 t1)), (5, (.msl 1 lo14 0 (List.length (out5 ++ ([List.getD l0 (Int.toNat i7) default]))))), (6, (eBool put6)), (7, (eInt .i64 i7))] ?_
      refine E_done (blockA_normal (thenA_normal (?_)))
      refine C_rg ttOk 3 ?_
      refine R_al ?_
      exact E_done (thenA_normal (⟨rfl, (out5 ++ ([List.getD l0 (Int.toNat i7) default]), put6, IntKind.i64.wrap (i7 + (1 : Int))), (Option.some.inj h1).symm, lo14, .eq (by kernel_rfl), hO⟩))
    refine C_sq ?_
    refine C_rg ttOk 10 ?_
    obtain ⟨c16, h1⟩ := asrtE h1
    refine R_as [0 ≤ i7 ∧ i7 < ((List.length l0 : Nat) : Int)] ⟨c16, trivial⟩ ?_
    refine E_ad [] [(31, (eBool ((decide (t1 < (List.getD l0 (Int.toNat i7) default))) && (!put6))))] ?_
    refine C_cd h1 (fun h1 => ?_) (fun h1 => ?_)
    · refine C_sq ?_
      refine C_rg ttOk 5 ?_
      refine R_pu 2 ?_
      refine R_bsl (xs := [(eInt .i64 t1)]) (k := 1) (by kernel_rfl) (by kernel_rfl) ?_
      obtain ⟨c19, h1⟩ := asrtE h1
      refine R_appOL (e := (eInt .i64)) out5 ([t1]) 0 lo8 1 8 (frozenOf [(eInt .i64 t1)]) (fun lo18 => [(lo18, 1, List.map (eInt .i64) (out5 ++ ([t1])))]) (by kernel_rfl) (by kernel_rfl) hO (by kernel_rfl) (by kernel_rfl) c19 (fun _ => by kernel_rfl) ?_
      intro lo18 H hO
      refine R_al ?_
      refine E_ad [5, 6, 31] [(5, (.msl 1 lo18 0 (List.length (out5 ++ ([t1])))))] ?_
      refine C_rg ttOk 1 ?_
      refine R_al ?_
      exact E_done (thenA_normal (⟨rfl, out5 ++ ([t1]), true, lo18, .eq (by kernel_rfl), hO, h1⟩))
    refine C_sk ?_
    exact E_done (thenA_normal (⟨rfl, out5, put6, lo8, .eq (by kernel_rfl), hO, h1⟩))
  refine C_ex 0 ?_
  obtain rfl := Option.some.inj h1
  obtain rfl : _ = rr0 := ho0
  replace h0 : ref09_With_j1 t1 out5 put6 = some r := h0
  exact E_done (thenA_exit (thenA_exit (blockA_hit (thenA_normal (⟨rfl, out5, put6, lo8, .eq (by kernel_rfl), hO, h0⟩)))))

end Go.Abs
namespace Go.Abs
open Go Go.RowKit Go.Proofs
theorem w_ref09_Told (places0 : (List Int)) (values1 : (List Int)) (r : ((List api_Jump) × Int)) (h0 : s_ref09_Told places0 values1 = some r) : Fine Try.prog 47 [(eL (eInt .i64) places0), (eL (eInt .i64) values1)] (.tup [(eL e_api_Jump r.1), (eInt .i64 r.2)]) := by
  intro H0
  refine F_wk Try.func47 ?_
  have hO := Owns.start H0
  unfold s_ref09_Told at h0
  refine S_al ttOk 2 [] [] ?_
  refine C_sq ?_
  refine C_rg ttOk 2 ?_
  refine R_bsl (xs := []) (k := 2) (by kernel_rfl) (by kernel_rfl) ?_
  refine R_al ?_
  refine E_ad [] [(6, (.sl true 0 (fun _ => .bad)))] ?_
  refine S_al ttOk 1 [] [(7, (eInt .i64 (0 : Int)))] ?_
  refine C_sj (fun T H => ∃ f6 : List api_Jump, ∃ lo1 : Nat, Has T [(6, (.msl 2 lo1 0 (List.length f6)))] ∧ Owns ⟨H0, [], []⟩ H [(lo1, 2, List.map e_api_Jump f6)] ∧ ref09_Told_j1 f6 = some r) ?_ ?_
  · clear hO h0
    rintro T H ⟨f6, lo1, hT, hO, h0⟩
    refine C_has hT ?_
    clear hT
    unfold ref09_Told_j1 at h0
    refine C_sq ?_
    refine C_sq ?_
    refine C_rg ttOk 3 ?_
    refine R_freezeO (e := e_api_Jump) f6 0 6 2 lo1 (List.length f6) [] (by kernel_rfl) hO (by kernel_rfl) (by kernel_rfl) (by kernel_rfl) (by kernel_rfl) ?_
    intro H hO
    refine R_pu 1 ?_
    obtain ⟨x2, hx3, h0⟩ := bindE h0
    refine R_cO 33 [(eL e_api_Jump f6)] (eBool x2) (w_ref09_May f6 _ hx3) hO ?_
    intro H hO
    refine R_al ?_
    refine E_tn [(6, (eL e_api_Jump f6)), (42, (eBool (!x2)))] ?_
    refine C_cd h0 (fun h0 => ?_) (fun h0 => ?_)
    · refine S_tn ttOk 2 [(4, (.sl true 0 (fun _ => .bad))), (5, (eInt .i64 (7 : Int)))] ?_
      refine C_rt ?_
      refine E_has (l := [(4, (eL e_api_Jump ([]))), (5, (eInt .i64 (7 : Int)))]) ⟨[(4, (.sl true 0 (fun _ => .bad))), (5, (eInt .i64 (7 : Int)))], by kernel_rfl, rfl, ⟨subNilL, SubV.refl _, trivial⟩⟩ ?_
      obtain rfl := Option.some.inj h0
      exact E_done (thenA_ret (Q_ret (x := (.tup [(eL e_api_Jump ([])), (eInt .i64 (7 : Int))])) (by kernel_rfl) (SubV.refl _) ⟨rfl, hO.out⟩))
    refine C_sk ?_
    refine E_tn [(6, (eL e_api_Jump f6))] ?_
    refine S_tn ttOk 3 [(4, (eL e_api_Jump f6)), (5, (eInt .i64 (0 : Int)))] ?_
    refine C_rt ?_
    obtain rfl := Option.some.inj h0
    exact E_done (Q_ret (x := (.tup [(eL e_api_Jump f6), (eInt .i64 (0 : Int))])) (by kernel_rfl) (SubV.refl _) ⟨rfl, hO.out⟩)
  refine S_al ttOk 1 [] [(8, (eInt .i64 (0 : Int)))] ?_
  refine C_bk 0 ?_
  refine C_hk [(0, (eL (eInt .i64) places0)), (1, (eL (eInt .i64) values1)), (6, (.sl true 0 (fun _ => .bad))), (7, (eInt .i64 (0 : Int))), (8, (eInt .i64 (0 : Int)))] ?_
  refine C_ownO (el := (fun _ => .bad)) 2 6 2 hO (by kernel_rfl) ?_
  intro lo17 H18 hO
  refine C_cut (fun T H => ∃ f6 : List api_Jump, ∃ was7 : Int, ∃ i8 : Int, ∃ lo7 : Nat, Has T [(0, (eL (eInt .i64) places0)), (1, (eL (eInt .i64) values1)), (6, (.msl 2 lo7 0 (List.length f6))), (7, (eInt .i64 was7)), (8, (eInt .i64 i8))] ∧ Owns ⟨H0, [], []⟩ H [(lo7, 2, List.map e_api_Jump f6)] ∧ ref09_Told_h2 places0 values1 f6 was7 i8 = some r) ?_ ⟨([] : List api_Jump), (0 : Int), (0 : Int), lo17, .eq (by kernel_rfl), hO, h0⟩
  clear hO h0
  rintro T H ⟨f6, was7, i8, lo7, hT, hO, h0⟩
  refine C_has hT ?_
  clear hT
  unfold ref09_Told_h2 at h0
  obtain ⟨rr0, hl0, h0⟩ := bindE h0
  refine C_loopS (by kernel_rfl) (fun (s : List api_Jump × Int × Int) T H => ∃ lo7 : Nat, Has T [(0, (eL (eInt .i64) places0)), (1, (eL (eInt .i64) values1)), (6, (.msl 2 lo7 0 (List.length s.1))), (7, (eInt .i64 s.2.1)), (8, (eInt .i64 s.2.2))] ∧ Owns ⟨H0, [], []⟩ H [(lo7, 2, List.map e_api_Jump s.1)]) hl0 ⟨lo7, .eq (by kernel_rfl), hO⟩ ?_
  clear hO
  rintro k0 s out1 T H ⟨lo7, hT, hO⟩ h1 ho0
  obtain ⟨f6, was7, i8⟩ := s
  replace h1 : ref09_Told_l2 places0 values1 f6 was7 i8 = some out1 := h1
  dsimp only at hT
  refine C_has hT ?_
  clear hT
  unfold ref09_Told_l2 at h1
  refine C_sq ?_
  refine S_al ttOk 4 [] [(13, (eBool (decide (i8 < ((List.length places0 : Nat) : Int)))))] ?_
  refine C_cd h1 (fun h1 => ?_) (fun h1 => ?_)
  · refine C_sk ?_
    refine E_tn [(0, (eL (eInt .i64) places0)), (1, (eL (eInt .i64) values1)), (6, (.msl 2 lo7 0 (List.length f6))), (7, (eInt .i64 was7)), (8, (eInt .i64 i8))] ?_
    refine C_sq ?_
    refine C_bk 1 ?_
    refine C_sj (fun T H => ∃ f6 : List api_Jump, ∃ lo9 : Nat, Has T [(0, (eL (eInt .i64) places0)), (1, (eL (eInt .i64) values1)), (6, (.msl 2 lo9 0 (List.length f6))), (8, (eInt .i64 i8))] ∧ Owns ⟨H0, [], []⟩ H [(lo9, 2, List.map e_api_Jump f6)] ∧ ref09_Told_j3 places0 values1 f6 i8 = some out1) ?_ ?_
    · clear hO h1
      rintro T H ⟨f6, lo9, hT, hO, h1⟩
      refine C_has hT ?_
      clear hT
      unfold ref09_Told_j3 at h1
      refine C_rg ttOk 5 ?_
      obtain ⟨c10, h1⟩ := asrtE h1
      refine R_as [0 ≤ i8 ∧ i8 < ((List.length values1 : Nat) : Int)] ⟨c10, trivial⟩ ?_
      refine E_hk [(0, (eL (eInt .i64) places0)), (1, (eL (eInt .i64) values1)), (6, (.msl 2 lo9 0 (List.length f6))), (7, (eInt .i64 (List.getD values1 (Int.toNat i8) default))), (8, (eInt .i64 i8))] ?_
      refine E_done (blockA_normal (thenA_normal (?_)))
      refine C_rg ttOk 3 ?_
      refine R_al ?_
      exact E_done (thenA_normal (⟨rfl, (f6, List.getD values1 (Int.toNat i8) default, IntKind.i64.wrap (i8 + (1 : Int))), (Option.some.inj h1).symm, lo9, .eq (by kernel_rfl), hO⟩))
    refine C_sq ?_
    refine C_rg ttOk 6 ?_
    obtain ⟨c11, h1⟩ := asrtE h1
    refine R_as [0 ≤ i8 ∧ i8 < ((List.length values1 : Nat) : Int)] ⟨c11, trivial⟩ ?_
    refine E_ad [] [(21, (eBool (!decide ((List.getD values1 (Int.toNat i8) default) = was7))))] ?_
    refine C_cd h1 (fun h1 => ?_) (fun h1 => ?_)
    · refine C_dg (plOf [26, 30]) ttOk 15 ?_
      obtain ⟨c13, h1⟩ := asrtE h1
      obtain ⟨c14, h1⟩ := asrtE h1
      refine D_ps 12 [0 ≤ i8 ∧ i8 < ((List.length places0 : Nat) : Int), 0 ≤ i8 ∧ i8 < ((List.length values1 : Nat) : Int)] ⟨c13, c14, trivial⟩ ?_
      refine D_bsl (xs := [(e_api_Jump (api_Jump.mk (List.getD places0 (Int.toNat i8) default) (IntKind.i64.wrap ((List.getD values1 (Int.toNat i8) default) - was7))))]) (k := 2) (by kernel_rfl) (by kernel_rfl) ?_
      obtain ⟨c16, h1⟩ := asrtE h1
      refine D_appOL (e := e_api_Jump) f6 ([api_Jump.mk (List.getD places0 (Int.toNat i8) default) (IntKind.i64.wrap ((List.getD values1 (Int.toNat i8) default) - was7))]) 0 lo7 2 16 (frozenOf [(e_api_Jump (api_Jump.mk (List.getD places0 (Int.toNat i8) default) (IntKind.i64.wrap ((List.getD values1 (Int.toNat i8) default) - was7))))]) (fun lo15 => [(lo15, 2, List.map e_api_Jump (f6 ++ ([api_Jump.mk (List.getD places0 (Int.toNat i8) default) (IntKind.i64.wrap ((List.getD values1 (Int.toNat i8) default) - was7))])))]) (by kernel_rfl) (by kernel_rfl) hO (by kernel_rfl) (by kernel_rfl) c16 (fun _ => by kernel_rfl) ?_
      intro lo15 H hO
      refine D_al ?_
      exact E_done (thenA_normal (⟨rfl, f6 ++ ([api_Jump.mk (List.getD places0 (Int.toNat i8) default) (IntKind.i64.wrap ((List.getD values1 (Int.toNat i8) default) - was7))]), lo15, .eq (by kernel_rfl), hO, h1⟩))
    refine C_sk ?_
    exact E_done (thenA_normal (⟨rfl, f6, lo7, .eq (by kernel_rfl), hO, h1⟩))
  refine C_ex 0 ?_
  obtain rfl := Option.some.inj h1
  obtain rfl : _ = rr0 := ho0
  replace h0 : ref09_Told_j1 f6 = some r := h0
  exact E_done (thenA_exit (thenA_exit (blockA_hit (thenA_normal (⟨rfl, f6, lo7, .eq (by kernel_rfl), hO, h0⟩)))))

theorem w_ref10_Put (lo0p : Nat) (l0 : (List api_Edge)) (r1 : (List api_Value)) (f2 : (List api_Jump)) (r : (List api_Edge)) (h0 : s_ref10_Put l0 r1 f2 = some r) : FineA Try.prog 29 lo0p 3 (List.map e_api_Edge l0) [(.msl 3 lo0p 0 (List.length l0)), (eL e_api_Value r1), (eL e_api_Jump f2)] (fun lo => .msl 3 lo 0 (List.length r)) (List.map e_api_Edge r) := by
  intro H0 hl0
  refine F_wk Try.func29 ?_
  have hO := Owns.start1 hl0
  clear hl0
  unfold s_ref10_Put at h0
  refine S_al ttOk 1 [] [] ?_
  refine C_sj (fun T H => ∃ l0 : List api_Edge, ∃ lo1 : Nat, Has T [(0, (.msl 3 lo1 0 (List.length l0)))] ∧ Owns ⟨H0, [lo0p], []⟩ H [(lo1, 3, List.map e_api_Edge l0)] ∧ ref10_Put_j1 l0 = some r) ?_ ?_
  · clear hO h0
    rintro T H ⟨l0, lo1, hT, hO, h0⟩
    refine C_has hT ?_
    clear hT
    unfold ref10_Put_j1 at h0
    refine S_tn ttOk 2 [(6, (.msl 3 lo1 0 (List.length l0)))] ?_
    refine C_rt ?_
    obtain rfl := Option.some.inj h0
    exact E_done (Q_ret (x := (.msl 3 lo1 0 (List.length l0))) (by kernel_rfl) (SubV.refl _) ⟨lo1, rfl, hO⟩)
  refine S_al ttOk 1 [] [(7, (eInt .i64 (0 : Int)))] ?_
  refine C_bk 0 ?_
  refine C_hk [(0, (.msl 3 lo0p 0 (List.length l0))), (1, (eL e_api_Value r1)), (2, (eL e_api_Jump f2)), (7, (eInt .i64 (0 : Int)))] ?_
  refine C_cut (fun T H => ∃ l0 : List api_Edge, ∃ i7 : Int, ∃ lo3 : Nat, Has T [(0, (.msl 3 lo3 0 (List.length l0))), (1, (eL e_api_Value r1)), (2, (eL e_api_Jump f2)), (7, (eInt .i64 i7))] ∧ Owns ⟨H0, [lo0p], []⟩ H [(lo3, 3, List.map e_api_Edge l0)] ∧ ref10_Put_h2 l0 r1 f2 i7 = some r) ?_ ⟨l0, (0 : Int), lo0p, .eq (by kernel_rfl), hO, h0⟩
  clear hO h0
  rintro T H ⟨l0, i7, lo3, hT, hO, h0⟩
  refine C_has hT ?_
  clear hT
  unfold ref10_Put_h2 at h0
  obtain ⟨rr0, hl0, h0⟩ := bindE h0
  refine C_loopS (by kernel_rfl) (fun (s : List api_Edge × Int) T H => ∃ lo3 : Nat, Has T [(0, (.msl 3 lo3 0 (List.length s.1))), (1, (eL e_api_Value r1)), (2, (eL e_api_Jump f2)), (7, (eInt .i64 s.2))] ∧ Owns ⟨H0, [lo0p], []⟩ H [(lo3, 3, List.map e_api_Edge s.1)]) hl0 ⟨lo3, .eq (by kernel_rfl), hO⟩ ?_
  clear hO
  rintro k0 s out1 T H ⟨lo3, hT, hO⟩ h1 ho0
  obtain ⟨l0, i7⟩ := s
  replace h1 : ref10_Put_l2 r1 f2 l0 i7 = some out1 := h1
  dsimp only at hT
  refine C_has hT ?_
  clear hT
  unfold ref10_Put_l2 at h1
  refine C_sq ?_
  refine S_al ttOk 4 [] [(11, (eBool (decide (i7 < ((List.length f2 : Nat) : Int)))))] ?_
  refine C_cd h1 (fun h1 => ?_) (fun h1 => ?_)
  · refine C_sk ?_
    refine E_tn [(0, (.msl 3 lo3 0 (List.length l0))), (1, (eL e_api_Value r1)), (2, (eL e_api_Jump f2)), (7, (eInt .i64 i7))] ?_
    refine C_sq ?_
    refine C_bk 1 ?_
    refine C_dg (plOf [22, 27]) ttOk 18 ?_
    refine D_pu 1 ?_
    refine D_bsl (xs := []) (k := 3) (by kernel_rfl) (by kernel_rfl) ?_
    refine D_pu 3 ?_
    obtain ⟨c10, h1⟩ := asrtE h1
    refine D_appNF (e := e_api_Value) r1 (fun _ => .bad) 3 32 (eL e_api_Value r1) (by kernel_rfl) (by kernel_rfl) hO (appX_eL (fun _ => by kernel_rfl)) c10 ?_
    intro H hO
    obtain ⟨c11, h1⟩ := asrtE h1
    obtain ⟨c12, h1⟩ := asrtE h1
    refine D_ps 15 [0 ≤ i7 ∧ i7 < ((List.length f2 : Nat) : Int), 0 ≤ i7 ∧ i7 < ((List.length f2 : Nat) : Int)] ⟨c11, c12, trivial⟩ ?_
    refine D_bsl (xs := [(e_api_Edge (api_Edge.mk r1 ((List.getD f2 (Int.toNat i7) default).At) ((List.getD f2 (Int.toNat i7) default).Net)))]) (k := 3) (by kernel_rfl) (by kernel_rfl) ?_
    obtain ⟨c14, h1⟩ := asrtE h1
    refine D_appOL (e := e_api_Edge) l0 ([api_Edge.mk r1 ((List.getD f2 (Int.toNat i7) default).At) ((List.getD f2 (Int.toNat i7) default).Net)]) 0 lo3 3 40 (frozenOf [(e_api_Edge (api_Edge.mk r1 ((List.getD f2 (Int.toNat i7) default).At) ((List.getD f2 (Int.toNat i7) default).Net)))]) (fun lo13 => [(lo13, 3, List.map e_api_Edge (l0 ++ ([api_Edge.mk r1 ((List.getD f2 (Int.toNat i7) default).At) ((List.getD f2 (Int.toNat i7) default).Net)])))]) (by kernel_rfl) (by kernel_rfl) hO (by kernel_rfl) (by kernel_rfl) c14 (fun _ => by kernel_rfl) ?_
    intro lo13 H hO
    refine D_al ?_
    refine E_hk [(0, (.msl 3 lo13 0 (List.length (l0 ++ ([api_Edge.mk r1 ((List.getD f2 (Int.toNat i7) default).At) ((List.getD f2 (Int.toNat i7) default).Net)]))))), (1, (eL e_api_Value r1)), (2, (eL e_api_Jump f2)), (7, (eInt .i64 i7))] ?_
    refine E_done (blockA_normal (thenA_normal (?_)))
    refine C_rg ttOk 3 ?_
    refine R_al ?_
    exact E_done (thenA_normal (⟨rfl, (l0 ++ ([api_Edge.mk r1 ((List.getD f2 (Int.toNat i7) default).At) ((List.getD f2 (Int.toNat i7) default).Net)]), IntKind.i64.wrap (i7 + (1 : Int))), (Option.some.inj h1).symm, lo13, .eq (by kernel_rfl), hO⟩))
  refine C_ex 0 ?_
  obtain rfl := Option.some.inj h1
  obtain rfl : _ = rr0 := ho0
  replace h0 : ref10_Put_j1 l0 = some r := h0
  exact E_done (thenA_exit (thenA_exit (blockA_hit (thenA_normal (⟨rfl, l0, lo3, .eq (by kernel_rfl), hO, h0⟩)))))

theorem w_ref10_Same (a0 : (List api_Edge)) (b1 : (List api_Edge)) (r : Bool) (h0 : s_ref10_Same a0 b1 = some r) : Fine Try.prog 16 [(eL e_api_Edge a0), (eL e_api_Edge b1)] (eBool r) := by
  intro H0
  refine F_wk Try.func16 ?_
  have hO := Owns.start H0
  unfold s_ref10_Same at h0
  refine S_al ttOk 1 [] [] ?_
  refine C_sq ?_
  refine S_al ttOk 5 [] [(10, (eBool (!decide (((List.length a0 : Nat) : Int) = ((List.length b1 : Nat) : Int)))))] ?_
  refine C_cd h0 (fun h0 => ?_) (fun h0 => ?_)
  · refine S_tn ttOk 1 [(4, (eBool false))] ?_
    refine C_rt ?_
    obtain rfl := Option.some.inj h0
    exact E_done (thenA_ret (Q_ret (x := (eBool false)) (by kernel_rfl) (SubV.refl _) ⟨rfl, hO.out⟩))
  refine C_sk ?_
  refine E_tn [(0, (eL e_api_Edge a0)), (1, (eL e_api_Edge b1))] ?_
  refine C_sj (fun T H => Has T [] ∧ Owns ⟨H0, [], []⟩ H [] ∧ ref10_Same_j1  = some r) ?_ ?_
  · clear hO h0
    rintro T H ⟨hT, hO, h0⟩
    refine C_has hT ?_
    clear hT
    unfold ref10_Same_j1 at h0
    refine S_tn ttOk 1 [(4, (eBool true))] ?_
    refine C_rt ?_
    obtain rfl := Option.some.inj h0
    exact E_done (Q_ret (x := (eBool true)) (by kernel_rfl) (SubV.refl _) ⟨rfl, hO.out⟩)
  refine S_al ttOk 1 [] [(5, (eInt .i64 (0 : Int)))] ?_
  refine C_bk 0 ?_
  refine C_hk [(0, (eL e_api_Edge a0)), (1, (eL e_api_Edge b1)), (5, (eInt .i64 (0 : Int)))] ?_
  refine C_cut (fun T H => ∃ i5 : Int, Has T [(0, (eL e_api_Edge a0)), (1, (eL e_api_Edge b1)), (5, (eInt .i64 i5))] ∧ Owns ⟨H0, [], []⟩ H [] ∧ ref10_Same_h2 a0 b1 i5 = some r) ?_ ⟨(0 : Int), .eq (by kernel_rfl), hO, h0⟩
  clear hO h0
  rintro T H ⟨i5, hT, hO, h0⟩
  refine C_has hT ?_
  clear hT
  unfold ref10_Same_h2 at h0
  obtain ⟨rr0, hl0, h0⟩ := bindE h0
  refine C_loopS (by kernel_rfl) (fun (s : Int) T H => Has T [(0, (eL e_api_Edge a0)), (1, (eL e_api_Edge b1)), (5, (eInt .i64 s))] ∧ Owns ⟨H0, [], []⟩ H []) hl0 ⟨.eq (by kernel_rfl), hO⟩ ?_
  clear hO
  rintro k0 s out1 T H ⟨hT, hO⟩ h1 ho0
  obtain ⟨i5, rfl⟩ : ∃ x, x = s := ⟨_, rfl⟩
  replace h1 : ref10_Same_l2 a0 b1 i5 = some out1 := h1
  refine C_has hT ?_
  clear hT
  unfold ref10_Same_l2 at h1
  refine C_sq ?_
  refine S_al ttOk 4 [] [(14, (eBool (decide (i5 < ((List.length a0 : Nat) : Int)))))] ?_
  refine C_cd h1 (fun h1 => ?_) (fun h1 => ?_)
  · refine C_sk ?_
    refine E_tn [(0, (eL e_api_Edge a0)), (1, (eL e_api_Edge b1)), (5, (eInt .i64 i5))] ?_
    refine C_sq ?_
    refine C_bk 1 ?_
    refine C_sq ?_
    obtain ⟨c3, h1⟩ := asrtE h1
    obtain ⟨c4, h1⟩ := asrtE h1
    obtain ⟨c5, h1⟩ := asrtE h1
    obtain ⟨c6, h1⟩ := asrtE h1
    obtain ⟨c7, h1⟩ := asrtE h1
    obtain ⟨c8, h1⟩ := asrtE h1
    obtain ⟨x9, hx10, h1⟩ := bindE h1
    refine C_dg (plOf [21, 26, 33, 38, 46, 51]) ttOk 38 ?_
    refine D_mono (K := fun T H => Has (lift T) [(0, (eL e_api_Edge a0)), (1, (eL e_api_Edge b1)), (5, (eInt .i64 i5)), (54, (eBool (((!decide (((List.getD a0 (Int.toNat i5) default).At) = ((List.getD b1 (Int.toNat i5) default).At))) || (!decide (((List.getD a0 (Int.toNat i5) default).Net) = ((List.getD b1 (Int.toNat i5) default).Net)))) || (!x9))))] ∧ Owns ⟨H0, [], []⟩ H []) ?_ ?_
    · refine D_ps 12 [0 ≤ i5 ∧ i5 < ((List.length a0 : Nat) : Int), 0 ≤ i5 ∧ i5 < ((List.length b1 : Nat) : Int)] ⟨c3, c4, trivial⟩ ?_
      refine D_split (t := 28) (e := !decide (((List.getD a0 (Int.toNat i5) default).At) = ((List.getD b1 (Int.toNat i5) default).At))) (by kernel_rfl) (fun hg11 => ?_) (fun hg11 => ?_)
      · refine D_al ?_
        exact ⟨⟨[(0, (eL e_api_Edge a0)), (1, (eL e_api_Edge b1)), (5, (eInt .i64 i5)), (54, (eBool true))], by kernel_rfl, rfl, ⟨SubV.refl _, SubV.refl _, SubV.refl _, SubV.eq (by first | (simp only [eBool, hg11, Bool.not_true, Bool.not_false, Bool.true_and, Bool.and_true, Bool.false_and, Bool.and_false, Bool.or_true, Bool.true_or, Bool.or_false, Bool.false_or, cond_true, cond_false]; done) | simp [eBool, hg11]), trivial⟩⟩, hO⟩
      refine D_ps 25 [0 ≤ i5 ∧ i5 < ((List.length a0 : Nat) : Int), 0 ≤ i5 ∧ i5 < ((List.length b1 : Nat) : Int)] ⟨(c5 (by first | (simp only [hg11, Bool.not_true, Bool.not_false, Bool.true_and, Bool.and_true, Bool.false_and, Bool.and_false, Bool.or_true, Bool.true_or, Bool.or_false, Bool.false_or, cond_true, cond_false]; done) | simp [hg11])), (c6 (by first | (simp only [hg11, Bool.not_true, Bool.not_false, Bool.true_and, Bool.and_true, Bool.false_and, Bool.and_false, Bool.or_true, Bool.true_or, Bool.or_false, Bool.false_or, cond_true, cond_false]; done) | simp [hg11])), trivial⟩ ?_
      refine D_split (t := 41) (e := !decide (((List.getD a0 (Int.toNat i5) default).Net) = ((List.getD b1 (Int.toNat i5) default).Net))) (by kernel_rfl) (fun hg12 => ?_) (fun hg12 => ?_)
      · refine D_al ?_
        exact ⟨⟨[(0, (eL e_api_Edge a0)), (1, (eL e_api_Edge b1)), (5, (eInt .i64 i5)), (54, (eBool true))], by kernel_rfl, rfl, ⟨SubV.refl _, SubV.refl _, SubV.refl _, SubV.eq (by first | (simp only [eBool, hg11, hg12, Bool.not_true, Bool.not_false, Bool.true_and, Bool.and_true, Bool.false_and, Bool.and_false, Bool.or_true, Bool.true_or, Bool.or_false, Bool.false_or, cond_true, cond_false]; done) | simp [eBool, hg11, hg12]), trivial⟩⟩, hO⟩
      refine D_ps 35 [0 ≤ i5 ∧ i5 < ((List.length a0 : Nat) : Int), 0 ≤ i5 ∧ i5 < ((List.length b1 : Nat) : Int)] ⟨(c7 (by first | (simp only [hg11, hg12, Bool.not_true, Bool.not_false, Bool.true_and, Bool.and_true, Bool.false_and, Bool.and_false, Bool.or_true, Bool.true_or, Bool.or_false, Bool.false_or, cond_true, cond_false]; done) | simp [hg11, hg12])), (c8 (by first | (simp only [hg11, hg12, Bool.not_true, Bool.not_false, Bool.true_and, Bool.and_true, Bool.false_and, Bool.and_false, Bool.or_true, Bool.true_or, Bool.or_false, Bool.false_or, cond_true, cond_false]; done) | simp [hg11, hg12])), trivial⟩ ?_
      refine D_callV 48 [(eL e_api_Value ((List.getD a0 (Int.toNat i5) default).Row)), (eL e_api_Value ((List.getD b1 (Int.toNat i5) default).Row))] (eBool x9) (by kernel_rfl) (by kernel_rfl) (w_ref06_Same ((List.getD a0 (Int.toNat i5) default).Row) ((List.getD b1 (Int.toNat i5) default).Row) _ (gcallE hx10 (by first | (simp only [hg11, hg12, Bool.not_true, Bool.not_false, Bool.true_and, Bool.and_true, Bool.false_and, Bool.and_false, Bool.or_true, Bool.true_or, Bool.or_false, Bool.false_or, cond_true, cond_false]; done) | simp [hg11, hg12]))) hO ?_
      intro H hO
      refine D_al ?_
      exact ⟨⟨[(0, (eL e_api_Edge a0)), (1, (eL e_api_Edge b1)), (5, (eInt .i64 i5)), (54, (eBool (!x9)))], by kernel_rfl, rfl, ⟨SubV.refl _, SubV.refl _, SubV.refl _, SubV.eq (by first | (simp only [eBool, hg11, hg12, Bool.not_true, Bool.not_false, Bool.true_and, Bool.and_true, Bool.false_and, Bool.and_false, Bool.or_true, Bool.true_or, Bool.or_false, Bool.false_or, cond_true, cond_false]; done) | simp [eBool, hg11, hg12]), trivial⟩⟩, hO⟩
    · rintro T H ⟨hT, hO⟩
      refine E_has hT ?_
      clear hT
      refine E_done (thenA_normal ?_)
      refine C_cd h1 (fun h1 => ?_) (fun h1 => ?_)
      · refine S_tn ttOk 1 [(4, (eBool false))] ?_
        refine C_rt ?_
        obtain rfl := Option.some.inj h1
        obtain rfl : _ = rr0 := ho0
        replace h0 : some false = some r := h0
        obtain rfl := Option.some.inj h0
        exact E_done (blockA_ret (thenA_ret (thenA_ret (blockA_ret (thenA_ret (Q_ret (x := (eBool false)) (by kernel_rfl) (SubV.refl _) ⟨rfl, hO.out⟩))))))
      refine C_sk ?_
      refine E_hk [(0, (eL e_api_Edge a0)), (1, (eL e_api_Edge b1)), (5, (eInt .i64 i5))] ?_
      refine E_done (blockA_normal (thenA_normal (?_)))
      refine C_rg ttOk 3 ?_
      refine R_al ?_
      exact E_done (thenA_normal (⟨rfl, IntKind.i64.wrap (i5 + (1 : Int)), (Option.some.inj h1).symm, .eq (by kernel_rfl), hO⟩))
  refine C_ex 0 ?_
  obtain rfl := Option.some.inj h1
  obtain rfl : _ = rr0 := ho0
  replace h0 : ref10_Same_j1  = some r := h0
  exact E_done (thenA_exit (thenA_exit (blockA_hit (thenA_normal (⟨rfl, .eq (by kernel_rfl), hO, h0⟩)))))

theorem w_law10_few (l0 : (List api_Edge)) (r : Bool) (h0 : s_law10_few l0 = some r) : Fine Try.prog 21 [(eL e_api_Edge l0)] (eBool r) := by
  intro H0
  refine F_wk Try.func21 ?_
  have hO := Owns.start H0
  unfold s_law10_few at h0
  refine S_al ttOk 1 [] [] ?_
  refine S_tn ttOk 4 [(2, (eBool (decide (((List.length l0 : Nat) : Int) ≤ (60 : Int)))))] ?_
  refine C_rt ?_
  obtain rfl := Option.some.inj h0
  exact E_done (Q_ret (x := (eBool (decide (((List.length l0 : Nat) : Int) ≤ (60 : Int))))) (by kernel_rfl) (SubV.refl _) ⟨rfl, hO.out⟩)

theorem w_span_tick (t0 : Int) (r : Bool) (h0 : s_span_tick t0 = some r) : Fine Try.prog 110 [(eInt .i64 t0)] (eBool r) := by
  intro H0
  refine F_wk Try.func110 ?_
  have hO := Owns.start H0
  unfold s_span_tick at h0
  refine S_al ttOk 1 [] [] ?_
  refine S_tn ttOk 7 [(2, (eBool ((decide ((0 : Int) ≤ t0)) && (decide (t0 ≤ (1125899906842624 : Int))))))] ?_
  refine C_rt ?_
  obtain rfl := Option.some.inj h0
  exact E_done (Q_ret (x := (eBool ((decide ((0 : Int) ≤ t0)) && (decide (t0 ≤ (1125899906842624 : Int)))))) (by kernel_rfl) (SubV.refl _) ⟨rfl, hO.out⟩)

theorem w_span_May (s0 : api_Span) (r : Bool) (h0 : s_span_May s0 = some r) : Fine Try.prog 81 [(e_api_Span s0)] (eBool r) := by
  intro H0
  refine F_wk Try.func81 ?_
  have hO := Owns.start H0
  unfold s_span_May at h0
  refine C_sq ?_
  refine C_rg ttOk 2 ?_
  refine R_boxF 2 (e_api_Span s0) (by kernel_rfl) (by kernel_rfl) ?_
  refine R_al ?_
  refine E_tn [(1, (.rp (e_api_Span s0)))] ?_
  refine C_sq ?_
  refine C_rg ttOk 16 ?_
  refine R_pu 2 ?_
  obtain ⟨x1, hx2, h0⟩ := bindE h0
  refine R_cO 110 [(eInt .i64 s0.From)] (eBool x1) (w_span_tick s0.From _ hx2) hO ?_
  intro H hO
  refine R_pu 6 ?_
  obtain ⟨x4, hx5, h0⟩ := bindE h0
  refine R_callO [(6, true)] 110 [(eInt .i64 s0.To)] (eBool x4) x1 (by kernel_rfl) (by kernel_rfl) (by kernel_rfl) (fun hb6 => (w_span_tick s0.To _ (gcallE hx5 hb6))) hO ?_
  intro H hO
  refine R_al ?_
  refine E_tn [(2, (eBool ((x1 && x4) && (decide (s0.From < s0.To)))))] ?_
  refine C_rt ?_
  obtain rfl := Option.some.inj h0
  exact E_done (Q_ret (x := (eBool ((x1 && x4) && (decide (s0.From < s0.To))))) (by kernel_rfl) (SubV.refl _) ⟨rfl, hO.out⟩)

theorem w_edge_Of (r0 : (List api_Value)) (s1 : api_Span) (r : ((List api_Edge) × Int)) (h0 : s_edge_Of r0 s1 = some r) : Fine Try.prog 39 [(eL e_api_Value r0), (e_api_Span s1)] (.tup [(eL e_api_Edge r.1), (eInt .i64 r.2)]) := by
  intro H0
  refine F_wk Try.func39 ?_
  have hO := Owns.start H0
  unfold s_edge_Of at h0
  refine C_sq ?_
  refine C_rg ttOk 3 ?_
  refine R_boxF 2 (e_api_Span s1) (by kernel_rfl) (by kernel_rfl) ?_
  refine R_al ?_
  refine E_ad [1] [(3, (.rp (e_api_Span s1)))] ?_
  refine C_sq ?_
  refine C_bk 0 ?_
  refine C_sq ?_
  refine C_rg ttOk 4 ?_
  refine R_pu 1 ?_
  obtain ⟨x1, hx2, h0⟩ := bindE h0
  refine R_cO 55 [(eL e_api_Value r0)] (eBool x1) (w_row_May r0 _ hx2) hO ?_
  intro H hO
  refine R_al ?_
  refine E_ad [] [(6, (eBool (!x1)))] ?_
  refine C_cd h0 (fun h0 => ?_) (fun h0 => ?_)
  · refine S_tn ttOk 2 [(4, (.sl true 0 (fun _ => .bad))), (5, (eInt .i64 (2 : Int)))] ?_
    refine C_rt ?_
    refine E_has (l := [(4, (eL e_api_Edge ([]))), (5, (eInt .i64 (2 : Int)))]) ⟨[(4, (.sl true 0 (fun _ => .bad))), (5, (eInt .i64 (2 : Int)))], by kernel_rfl, rfl, ⟨subNilL, SubV.refl _, trivial⟩⟩ ?_
    obtain rfl := Option.some.inj h0
    exact E_done (blockA_ret (thenA_ret (Q_ret (x := (.tup [(eL e_api_Edge ([])), (eInt .i64 (2 : Int))])) (by kernel_rfl) (SubV.refl _) ⟨rfl, hO.out⟩)))
  refine C_sq ?_
  refine C_rg ttOk 4 ?_
  refine R_pu 1 ?_
  obtain ⟨x5, hx6, h0⟩ := bindE h0
  refine R_cO 81 [(e_api_Span s1)] (eBool x5) (w_span_May s1 _ hx6) hO ?_
  intro H hO
  refine R_al ?_
  refine E_ad [6] [(10, (eBool (!x5)))] ?_
  refine C_cd h0 (fun h0 => ?_) (fun h0 => ?_)
  · refine S_tn ttOk 2 [(4, (.sl true 0 (fun _ => .bad))), (5, (eInt .i64 (14 : Int)))] ?_
    refine C_rt ?_
    refine E_has (l := [(4, (eL e_api_Edge ([]))), (5, (eInt .i64 (14 : Int)))]) ⟨[(4, (.sl true 0 (fun _ => .bad))), (5, (eInt .i64 (14 : Int)))], by kernel_rfl, rfl, ⟨subNilL, SubV.refl _, trivial⟩⟩ ?_
    obtain rfl := Option.some.inj h0
    exact E_done (blockA_ret (thenA_ret (Q_ret (x := (.tup [(eL e_api_Edge ([])), (eInt .i64 (14 : Int))])) (by kernel_rfl) (SubV.refl _) ⟨rfl, hO.out⟩)))
  refine C_sk ?_
  refine E_hk [(0, (eL e_api_Value r0)), (3, (.rp (e_api_Span s1)))] ?_
  refine E_done (blockA_normal (thenA_normal (?_)))
  refine C_sq ?_
  refine C_rg ttOk 14 ?_
  refine R_pu 8 ?_
  refine R_bsl (xs := [(e_api_Edge (api_Edge.mk r0 s1.From (1 : Int))), (e_api_Edge (api_Edge.mk r0 s1.To (-1 : Int)))]) (k := 3) (by kernel_rfl) (by kernel_rfl) ?_
  obtain ⟨x9, hx10, h0⟩ := bindE h0
  refine R_cO 23 [(frozenOf [(e_api_Edge (api_Edge.mk r0 s1.From (1 : Int))), (e_api_Edge (api_Edge.mk r0 s1.To (-1 : Int)))])] (.tup [(eL e_api_Edge x9.1), (eInt .i64 x9.2)]) (Fine.sub (w_edge_Norm ([api_Edge.mk r0 s1.From (1 : Int), api_Edge.mk r0 s1.To (-1 : Int)]) _ hx10) ⟨subLit (l := [api_Edge.mk r0 s1.From (1 : Int), api_Edge.mk r0 s1.To (-1 : Int)]), trivial⟩) hO ?_
  intro H hO
  refine R_al ?_
  refine E_tn [(4, (eL e_api_Edge x9.1)), (5, (eInt .i64 x9.2))] ?_
  refine C_rt ?_
  obtain rfl := Option.some.inj h0
  exact E_done (Q_ret (x := (.tup [(eL e_api_Edge x9.1), (eInt .i64 x9.2)])) (by kernel_rfl) (SubV.refl _) ⟨rfl, hO.out⟩)

theorem w_slices_Grow_api_Edge_api_Edge (n1 : Int) (r : (List api_Edge)) (h0 : s_slices_Grow_api_Edge_api_Edge n1 = some r) : FineO Try.prog 107 [(.sl true 0 (fun _ => .bad)), (eInt .i64 n1)] (fun lo => (.msl 3 lo 0 (List.length r))) 3 (List.map e_api_Edge r) := by
  intro H0
  refine F_wk Try.func107 ?_
  have hO := Owns.start H0
  unfold s_slices_Grow_api_Edge_api_Edge at h0
  refine S_al ttOk 1 [] [] ?_
  refine C_sq ?_
  refine S_al ttOk 2 [] [(6, (eBool (decide (n1 < (0 : Int)))))] ?_
  refine C_cd h0 (fun h0 => ?_) (fun h0 => ?_)
  · cases h0
  refine C_sk ?_
  refine E_tn [(0, (.sl true 0 (fun _ => .bad))), (1, (eInt .i64 n1))] ?_
  refine C_sj (fun T H => ∃ s0 : List api_Edge, ∃ lo2 : Nat, Has T [(0, (.msl 3 lo2 0 (List.length s0)))] ∧ Owns ⟨H0, [], []⟩ H [(lo2, 3, List.map e_api_Edge s0)] ∧ slices_Grow_api_Edge_api_Edge_j1 s0 = some r) ?_ ?_
  · clear hO h0
    rintro T H ⟨s0, lo2, hT, hO, h0⟩
    refine C_has hT ?_
    clear hT
    unfold slices_Grow_api_Edge_api_Edge_j1 at h0
    refine S_tn ttOk 2 [(4, (.msl 3 lo2 0 (List.length s0)))] ?_
    refine C_rt ?_
    obtain rfl := Option.some.inj h0
    exact E_done (Q_ret (x := (.msl 3 lo2 0 (List.length s0))) (by kernel_rfl) (SubV.refl _) ⟨lo2, rfl, hO⟩)
  refine S_al ttOk 8 [1] [(1, (eInt .i64 (IntKind.i64.wrap (n1 - (IntKind.i64.wrap ((0 : Int) - ((0 : Nat) : Int)))))))] ?_
  refine S_al ttOk 2 [] [(16, (eBool (decide ((0 : Int) < (IntKind.i64.wrap (n1 - (IntKind.i64.wrap ((0 : Int) - ((0 : Nat) : Int)))))))))] ?_
  refine C_cd h0 (fun h0 => ?_) (fun h0 => ?_)
  · refine C_rg ttOk 10 ?_
    obtain ⟨c4, h0⟩ := asrtE h0
    refine R_ps 5 [0 ≤ (0 : Int) ∧ (0 : Int) ≤ ((0 : Nat) : Int)] ⟨c4, trivial⟩ ?_
    obtain ⟨c5, h0⟩ := asrtE h0
    refine R_appMakeO 3 40 (IntKind.i64.wrap (n1 - (IntKind.i64.wrap ((0 : Int) - ((0 : Nat) : Int))))) (by kernel_rfl) (by kernel_rfl) c5 hO ?_
    intro lo6 H hO
    obtain ⟨c7, h0⟩ := asrtE h0
    refine R_as [0 ≤ ((0 : Nat) : Int) ∧ ((0 : Nat) : Int) ≤ (((Int.toNat (IntKind.i64.wrap (n1 - (IntKind.i64.wrap ((0 : Int) - ((0 : Nat) : Int)))))) : Nat) : Int)] ⟨c7, trivial⟩ ?_
    exact E_done (thenA_normal (⟨rfl, ([] : List api_Edge), lo6, .eq (by kernel_rfl), hO, h0⟩))
  refine C_sk ?_
  refine E_hk [(0, (.sl true 0 (fun _ => .bad)))] ?_
  refine E_ownO (el := (fun _ => .bad)) 0 0 3 hO (by kernel_rfl) ?_
  intro lo8 H9 hO
  exact E_done (thenA_normal (⟨rfl, ([] : List api_Edge), lo8, .eq (by kernel_rfl), hO, h0⟩))

theorem w_slices_Concat_api_Edge_api_Edge (slices0 : (List (List api_Edge))) (r : (List api_Edge)) (h0 : s_slices_Concat_api_Edge_api_Edge slices0 = some r) : Fine Try.prog 79 [(eL (eL e_api_Edge) slices0)] (eL e_api_Edge r) := by
  intro H0
  refine F_wk Try.func79 ?_
  have hO := Owns.start H0
  unfold s_slices_Concat_api_Edge_api_Edge at h0
  refine S_al ttOk 1 [] [] ?_
  refine S_al ttOk 1 [] [(3, (eInt .i64 (0 : Int)))] ?_
  refine C_sj (fun T H => ∃ size3 : Int, Has T [(0, (eL (eL e_api_Edge) slices0)), (3, (eInt .i64 size3))] ∧ Owns ⟨H0, [], []⟩ H [] ∧ slices_Concat_api_Edge_api_Edge_j1 slices0 size3 = some r) ?_ ?_
  · clear hO h0
    rintro T H ⟨size3, hT, hO, h0⟩
    refine C_has hT ?_
    clear hT
    unfold slices_Concat_api_Edge_api_Edge_j1 at h0
    refine C_sq ?_
    refine C_rg ttOk 3 ?_
    refine R_pu 1 ?_
    obtain ⟨x1, hx2, h0⟩ := bindE h0
    refine R_callP (L' := fun lo3 => [(lo3, 3, List.map e_api_Edge x1)]) 3 (List.map e_api_Edge x1) 107 [(.sl true 0 (fun _ => .bad)), (eInt .i64 size3)] (fun lo3 => (.msl 3 lo3 0 (List.length x1))) (by kernel_rfl) (by kernel_rfl) (w_slices_Grow_api_Edge_api_Edge size3 _ hx2) hO (fun _ => by kernel_rfl) ?_
    intro lo3 H hO
    refine R_al ?_
    refine E_ad [3] [(6, (.msl 3 lo3 0 (List.length x1)))] ?_
    refine C_sj (fun T H => ∃ newslice6 : List api_Edge, ∃ lo4 : Nat, Has T [(6, (.msl 3 lo4 0 (List.length newslice6)))] ∧ Owns ⟨H0, [], []⟩ H [(lo4, 3, List.map e_api_Edge newslice6)] ∧ slices_Concat_api_Edge_api_Edge_j2 newslice6 = some r) ?_ ?_
    · clear hO h0
      rintro T H ⟨newslice6, lo4, hT, hO, h0⟩
      refine C_has hT ?_
      clear hT
      unfold slices_Concat_api_Edge_api_Edge_j2 at h0
      refine S_tn ttOk 2 [(2, (.msl 3 lo4 0 (List.length newslice6)))] ?_
      refine C_rt ?_
      refine E_hk [(2, (.msl 3 lo4 0 (List.length newslice6)))] ?_
      refine E_freezeO (en := e_api_Edge) newslice6 0 0 2 3 lo4 (List.length newslice6) hO (by kernel_rfl) (by kernel_rfl) (by kernel_rfl) (L' := []) (by kernel_rfl) ?_
      intro H5 hO
      obtain rfl := Option.some.inj h0
      exact E_done (Q_ret (x := (eL e_api_Edge newslice6)) (by kernel_rfl) (SubV.refl _) ⟨rfl, hO.out⟩)
    refine S_al ttOk 3 [0] [(25, (eL (eL e_api_Edge) slices0)), (26, (eInt .i64 ((List.length slices0 : Nat) : Int))), (27, (eInt .i64 (0 : Int)))] ?_
    refine C_bk 2 ?_
    refine C_hk [(6, (.msl 3 lo3 0 (List.length x1))), (25, (eL (eL e_api_Edge) slices0)), (26, (eInt .i64 ((List.length slices0 : Nat) : Int))), (27, (eInt .i64 (0 : Int)))] ?_
    refine C_cut (fun T H => ∃ newslice6 : List api_Edge, ∃ t25 : (List (List api_Edge)), ∃ t26 : Int, ∃ t27 : Int, ∃ lo7 : Nat, Has T [(6, (.msl 3 lo7 0 (List.length newslice6))), (25, (eL (eL e_api_Edge) t25)), (26, (eInt .i64 t26)), (27, (eInt .i64 t27))] ∧ Owns ⟨H0, [], []⟩ H [(lo7, 3, List.map e_api_Edge newslice6)] ∧ slices_Concat_api_Edge_api_Edge_h3 newslice6 t25 t26 t27 = some r) ?_ ⟨x1, slices0, ((List.length slices0 : Nat) : Int), (0 : Int), lo3, .eq (by kernel_rfl), hO, h0⟩
    clear hO h0
    rintro T H ⟨newslice6, t25, t26, t27, lo7, hT, hO, h0⟩
    refine C_has hT ?_
    clear hT
    unfold slices_Concat_api_Edge_api_Edge_h3 at h0
    obtain ⟨rr0, hl0, h0⟩ := bindE h0
    refine C_loopS (by kernel_rfl) (fun (s : List api_Edge × Int) T H => ∃ lo7 : Nat, Has T [(6, (.msl 3 lo7 0 (List.length s.1))), (25, (eL (eL e_api_Edge) t25)), (26, (eInt .i64 t26)), (27, (eInt .i64 s.2))] ∧ Owns ⟨H0, [], []⟩ H [(lo7, 3, List.map e_api_Edge s.1)]) hl0 ⟨lo7, .eq (by kernel_rfl), hO⟩ ?_
    clear hO
    rintro k0 s out1 T H ⟨lo7, hT, hO⟩ h1 ho0
    obtain ⟨newslice6, t27⟩ := s
    replace h1 : slices_Concat_api_Edge_api_Edge_l3 t25 t26 newslice6 t27 = some out1 := h1
    dsimp only at hT
    refine C_has hT ?_
    clear hT
    unfold slices_Concat_api_Edge_api_Edge_l3 at h1
    refine S_al ttOk 1 [] [(28, (eBool (decide (t27 < t26))))] ?_
    refine C_sq ?_
    refine C_cd h1 (fun h1 => ?_) (fun h1 => ?_)
    · refine C_sk ?_
      refine E_tn [(6, (.msl 3 lo7 0 (List.length newslice6))), (25, (eL (eL e_api_Edge) t25)), (26, (eInt .i64 t26)), (27, (eInt .i64 t27))] ?_
      refine C_sq ?_
      refine C_bk 3 ?_
      refine C_sq ?_
      refine C_rg ttOk 3 ?_
      obtain ⟨c9, h1⟩ := asrtE h1
      refine R_as [0 ≤ t27 ∧ t27 < ((List.length t25 : Nat) : Int)] ⟨c9, trivial⟩ ?_
      refine E_ad [] [(8, (eL e_api_Edge (List.getD t25 (Int.toNat t27) default)))] ?_
      refine C_rg ttOk 4 ?_
      refine R_pu 2 ?_
      obtain ⟨c11, h1⟩ := asrtE h1
      refine R_appOL (e := e_api_Edge) newslice6 (List.getD t25 (Int.toNat t27) default) 0 lo7 3 40 (eL e_api_Edge (List.getD t25 (Int.toNat t27) default)) (fun lo10 => [(lo10, 3, List.map e_api_Edge (newslice6 ++ (List.getD t25 (Int.toNat t27) default)))]) (by kernel_rfl) (by kernel_rfl) hO (by kernel_rfl) (appX_eL (fun _ => by kernel_rfl)) c11 (fun _ => by kernel_rfl) ?_
      intro lo10 H hO
      refine R_al ?_
      refine E_hk [(6, (.msl 3 lo10 0 (List.length (newslice6 ++ (List.getD t25 (Int.toNat t27) default))))), (25, (eL (eL e_api_Edge) t25)), (26, (eInt .i64 t26)), (27, (eInt .i64 t27))] ?_
      refine E_done (blockA_normal (thenA_normal (?_)))
      refine C_rg ttOk 2 ?_
      refine R_al ?_
      exact E_done (thenA_normal (⟨rfl, (newslice6 ++ (List.getD t25 (Int.toNat t27) default), IntKind.i64.wrap (t27 + (1 : Int))), (Option.some.inj h1).symm, lo10, .eq (by kernel_rfl), hO⟩))
    refine C_ex 2 ?_
    obtain rfl := Option.some.inj h1
    obtain rfl : _ = rr0 := ho0
    replace h0 : slices_Concat_api_Edge_api_Edge_j2 newslice6 = some r := h0
    exact E_done (thenA_exit (thenA_exit (blockA_hit (thenA_normal (⟨rfl, newslice6, lo7, .eq (by kernel_rfl), hO, h0⟩)))))
  refine S_al ttOk 3 [] [(9, (eL (eL e_api_Edge) slices0)), (10, (eInt .i64 ((List.length slices0 : Nat) : Int))), (11, (eInt .i64 (0 : Int)))] ?_
  refine C_bk 0 ?_
  refine C_hk [(0, (eL (eL e_api_Edge) slices0)), (3, (eInt .i64 (0 : Int))), (9, (eL (eL e_api_Edge) slices0)), (10, (eInt .i64 ((List.length slices0 : Nat) : Int))), (11, (eInt .i64 (0 : Int)))] ?_
  refine C_cut (fun T H => ∃ size3 : Int, ∃ t9 : (List (List api_Edge)), ∃ t10 : Int, ∃ t11 : Int, Has T [(0, (eL (eL e_api_Edge) slices0)), (3, (eInt .i64 size3)), (9, (eL (eL e_api_Edge) t9)), (10, (eInt .i64 t10)), (11, (eInt .i64 t11))] ∧ Owns ⟨H0, [], []⟩ H [] ∧ slices_Concat_api_Edge_api_Edge_h4 slices0 size3 t9 t10 t11 = some r) ?_ ⟨(0 : Int), slices0, ((List.length slices0 : Nat) : Int), (0 : Int), .eq (by kernel_rfl), hO, h0⟩
  clear hO h0
  rintro T H ⟨size3, t9, t10, t11, hT, hO, h0⟩
  refine C_has hT ?_
  clear hT
  unfold slices_Concat_api_Edge_api_Edge_h4 at h0
  obtain ⟨rr0, hl0, h0⟩ := bindE h0
  refine C_loopS (by kernel_rfl) (fun (s : Int × Int) T H => Has T [(0, (eL (eL e_api_Edge) slices0)), (3, (eInt .i64 s.1)), (9, (eL (eL e_api_Edge) t9)), (10, (eInt .i64 t10)), (11, (eInt .i64 s.2))] ∧ Owns ⟨H0, [], []⟩ H []) hl0 ⟨.eq (by kernel_rfl), hO⟩ ?_
  clear hO
  rintro k0 s out1 T H ⟨hT, hO⟩ h1 ho0
  obtain ⟨size3, t11⟩ := s
  replace h1 : slices_Concat_api_Edge_api_Edge_l4 slices0 t9 t10 size3 t11 = some out1 := h1
  dsimp only at hT
  refine C_has hT ?_
  clear hT
  unfold slices_Concat_api_Edge_api_Edge_l4 at h1
  refine S_al ttOk 1 [] [(12, (eBool (decide (t11 < t10))))] ?_
  refine C_sq ?_
  refine C_cd h1 (fun h1 => ?_) (fun h1 => ?_)
  · refine C_sk ?_
    refine E_tn [(0, (eL (eL e_api_Edge) slices0)), (3, (eInt .i64 size3)), (9, (eL (eL e_api_Edge) t9)), (10, (eInt .i64 t10)), (11, (eInt .i64 t11))] ?_
    refine C_sq ?_
    refine C_bk 1 ?_
    refine C_sq ?_
    refine C_rg ttOk 3 ?_
    obtain ⟨c13, h1⟩ := asrtE h1
    refine R_as [0 ≤ t11 ∧ t11 < ((List.length t9 : Nat) : Int)] ⟨c13, trivial⟩ ?_
    refine E_ad [] [(5, (eL e_api_Edge (List.getD t9 (Int.toNat t11) default)))] ?_
    refine S_al ttOk 5 [3, 5] [(3, (eInt .i64 (IntKind.i64.wrap (size3 + ((List.length (List.getD t9 (Int.toNat t11) default) : Nat) : Int)))))] ?_
    refine S_al ttOk 2 [] [(20, (eBool (decide ((IntKind.i64.wrap (size3 + ((List.length (List.getD t9 (Int.toNat t11) default) : Nat) : Int))) < (0 : Int)))))] ?_
    refine C_cd h1 (fun h1 => ?_) (fun h1 => ?_)
    · cases h1
    refine C_sk ?_
    refine E_hk [(0, (eL (eL e_api_Edge) slices0)), (3, (eInt .i64 (IntKind.i64.wrap (size3 + ((List.length (List.getD t9 (Int.toNat t11) default) : Nat) : Int))))), (9, (eL (eL e_api_Edge) t9)), (10, (eInt .i64 t10)), (11, (eInt .i64 t11))] ?_
    refine E_done (blockA_normal (thenA_normal (?_)))
    refine C_rg ttOk 2 ?_
    refine R_al ?_
    exact E_done (thenA_normal (⟨rfl, (IntKind.i64.wrap (size3 + ((List.length (List.getD t9 (Int.toNat t11) default) : Nat) : Int)), IntKind.i64.wrap (t11 + (1 : Int))), (Option.some.inj h1).symm, .eq (by kernel_rfl), hO⟩))
  refine C_ex 0 ?_
  obtain rfl := Option.some.inj h1
  obtain rfl : _ = rr0 := ho0
  replace h0 : slices_Concat_api_Edge_api_Edge_j1 slices0 size3 = some r := h0
  exact E_done (thenA_exit (thenA_exit (blockA_hit (thenA_normal (⟨rfl, size3, .eq (by kernel_rfl), hO, h0⟩)))))

theorem w_edge_Add (a0 : (List api_Edge)) (b1 : (List api_Edge)) (r : ((List api_Edge) × Int)) (h0 : s_edge_Add a0 b1 = some r) : Fine Try.prog 37 [(eL e_api_Edge a0), (eL e_api_Edge b1)] (.tup [(eL e_api_Edge r.1), (eInt .i64 r.2)]) := by
  intro H0
  refine F_wk Try.func37 ?_
  have hO := Owns.start H0
  unfold s_edge_Add at h0
  refine S_al ttOk 2 [] [] ?_
  refine C_sq ?_
  refine C_sq ?_
  refine C_rg ttOk 8 ?_
  refine R_pu 1 ?_
  obtain ⟨x1, hx2, h0⟩ := bindE h0
  refine R_cO 25 [(eL e_api_Edge a0)] (eBool x1) (w_edge_May a0 _ hx2) hO ?_
  intro H hO
  refine R_pu 5 ?_
  obtain ⟨x4, hx5, h0⟩ := bindE h0
  refine R_callO [(9, false)] 25 [(eL e_api_Edge b1)] (eBool x4) (!(!x1)) (by kernel_rfl) (by kernel_rfl) (by kernel_rfl) (fun hb6 => (w_edge_May b1 _ (gcallE hx5 hb6))) hO ?_
  intro H hO
  refine R_al ?_
  refine E_ad [] [(13, (eBool ((!x1) || (!x4))))] ?_
  refine C_cd h0 (fun h0 => ?_) (fun h0 => ?_)
  · refine S_tn ttOk 2 [(4, (.sl true 0 (fun _ => .bad))), (5, (eInt .i64 (2 : Int)))] ?_
    refine C_rt ?_
    refine E_has (l := [(4, (eL e_api_Edge ([]))), (5, (eInt .i64 (2 : Int)))]) ⟨[(4, (.sl true 0 (fun _ => .bad))), (5, (eInt .i64 (2 : Int)))], by kernel_rfl, rfl, ⟨subNilL, SubV.refl _, trivial⟩⟩ ?_
    obtain rfl := Option.some.inj h0
    exact E_done (thenA_ret (Q_ret (x := (.tup [(eL e_api_Edge ([])), (eInt .i64 (2 : Int))])) (by kernel_rfl) (SubV.refl _) ⟨rfl, hO.out⟩))
  refine C_sk ?_
  refine E_tn [(0, (eL e_api_Edge a0)), (1, (eL e_api_Edge b1))] ?_
  refine C_sq ?_
  refine C_rg ttOk 9 ?_
  refine R_pu 2 ?_
  refine R_bsl (xs := [(eL e_api_Edge a0), (eL e_api_Edge b1)]) (k := 1) (by kernel_rfl) (by kernel_rfl) ?_
  obtain ⟨x8, hx9, h0⟩ := bindE h0
  refine R_cO 79 [(frozenOf [(eL e_api_Edge a0), (eL e_api_Edge b1)])] (eL e_api_Edge x8) (Fine.sub (w_slices_Concat_api_Edge_api_Edge ([a0, b1]) _ hx9) ⟨subLit (l := [a0, b1]), trivial⟩) hO ?_
  intro H hO
  obtain ⟨x11, hx12, h0⟩ := bindE h0
  refine R_cO 23 [(eL e_api_Edge x8)] (.tup [(eL e_api_Edge x11.1), (eInt .i64 x11.2)]) (w_edge_Norm x8 _ hx12) hO ?_
  intro H hO
  refine R_al ?_
  refine E_tn [(4, (eL e_api_Edge x11.1)), (5, (eInt .i64 x11.2))] ?_
  refine C_rt ?_
  obtain rfl := Option.some.inj h0
  exact E_done (Q_ret (x := (.tup [(eL e_api_Edge x11.1), (eInt .i64 x11.2)])) (by kernel_rfl) (SubV.refl _) ⟨rfl, hO.out⟩)

theorem w_law10_live  (r : Bool) (h0 : s_law10_live  = some r) : Fine Try.prog 22 [] (eBool r) := by
  intro H0
  refine F_wk Try.func22 ?_
  have hO := Owns.start H0
  unfold s_law10_live at h0
  refine S_tn ttOk 1 [] ?_
  refine C_sq ?_
  refine C_rg ttOk 3 ?_
  refine R_pu 1 ?_
  refine R_bsl (xs := [(e_api_Value (api_Value.mk (1 : Int) (1 : Int) ByteArray.empty))]) (k := 3) (by kernel_rfl) (by kernel_rfl) ?_
  refine R_al ?_
  refine E_has (l := [(1, (eL e_api_Value ([api_Value.mk (1 : Int) (1 : Int) ByteArray.empty])))]) ⟨[(1, (frozenOf [(e_api_Value (api_Value.mk (1 : Int) (1 : Int) ByteArray.empty))]))], by kernel_rfl, rfl, ⟨subLit (l := [api_Value.mk (1 : Int) (1 : Int) ByteArray.empty]), trivial⟩⟩ ?_
  refine E_done (thenA_normal (?_))
  refine C_sq ?_
  refine C_rg ttOk 8 ?_
  refine R_pu 2 ?_
  obtain ⟨x1, hx2, h0⟩ := bindE h0
  refine R_cO 39 [(eL e_api_Value ([api_Value.mk (1 : Int) (1 : Int) ByteArray.empty])), (e_api_Span (api_Span.mk (2 : Int) (5 : Int)))] (.tup [(eL e_api_Edge x1.1), (eInt .i64 x1.2)]) (w_edge_Of ([api_Value.mk (1 : Int) (1 : Int) ByteArray.empty]) (api_Span.mk (2 : Int) (5 : Int)) _ hx2) hO ?_
  intro H hO
  refine R_al ?_
  refine E_ad [] [(2, (eL e_api_Edge x1.1)), (3, (eInt .i64 x1.2))] ?_
  refine C_sq ?_
  refine C_rg ttOk 8 ?_
  refine R_pu 2 ?_
  obtain ⟨x4, hx5, h0⟩ := bindE h0
  refine R_cO 39 [(eL e_api_Value ([api_Value.mk (1 : Int) (1 : Int) ByteArray.empty])), (e_api_Span (api_Span.mk (5 : Int) (9 : Int)))] (.tup [(eL e_api_Edge x4.1), (eInt .i64 x4.2)]) (w_edge_Of ([api_Value.mk (1 : Int) (1 : Int) ByteArray.empty]) (api_Span.mk (5 : Int) (9 : Int)) _ hx5) hO ?_
  intro H hO
  refine R_al ?_
  refine E_ad [1] [(4, (eL e_api_Edge x4.1)), (5, (eInt .i64 x4.2))] ?_
  refine C_sq ?_
  refine C_rg ttOk 8 ?_
  refine R_pu 2 ?_
  obtain ⟨x7, hx8, h0⟩ := bindE h0
  refine R_cO 37 [(eL e_api_Edge x1.1), (eL e_api_Edge x4.1)] (.tup [(eL e_api_Edge x7.1), (eInt .i64 x7.2)]) (w_edge_Add x1.1 x4.1 _ hx8) hO ?_
  intro H hO
  refine R_al ?_
  refine E_ad [4] [(6, (eL e_api_Edge x7.1)), (7, (eInt .i64 x7.2))] ?_
  refine C_sq ?_
  refine C_rg ttOk 56 ?_
  obtain ⟨c10, h0⟩ := asrtE h0
  obtain ⟨c11, h0⟩ := asrtE h0
  obtain ⟨c12, h0⟩ := asrtE h0
  obtain ⟨c13, h0⟩ := asrtE h0
  refine R_ps 50 [(((((((decide (x1.2 = (0 : Int))) && (decide (x4.2 = (0 : Int)))) && (decide (x7.2 = (0 : Int)))) && (decide (((List.length x1.1 : Nat) : Int) = (2 : Int)))) && (decide (((List.length x7.1 : Nat) : Int) = (2 : Int))))) = true → 0 ≤ (0 : Int) ∧ (0 : Int) < ((List.length x7.1 : Nat) : Int)), ((((((((decide (x1.2 = (0 : Int))) && (decide (x4.2 = (0 : Int)))) && (decide (x7.2 = (0 : Int)))) && (decide (((List.length x1.1 : Nat) : Int) = (2 : Int)))) && (decide (((List.length x7.1 : Nat) : Int) = (2 : Int)))) && (decide (((List.getD x7.1 (Int.toNat (0 : Int)) default).At) = (2 : Int))))) = true → 0 ≤ (0 : Int) ∧ (0 : Int) < ((List.length x7.1 : Nat) : Int)), (((((((((decide (x1.2 = (0 : Int))) && (decide (x4.2 = (0 : Int)))) && (decide (x7.2 = (0 : Int)))) && (decide (((List.length x1.1 : Nat) : Int) = (2 : Int)))) && (decide (((List.length x7.1 : Nat) : Int) = (2 : Int)))) && (decide (((List.getD x7.1 (Int.toNat (0 : Int)) default).At) = (2 : Int)))) && (decide (((List.getD x7.1 (Int.toNat (0 : Int)) default).Net) = (1 : Int))))) = true → 0 ≤ (1 : Int) ∧ (1 : Int) < ((List.length x7.1 : Nat) : Int)), ((((((((((decide (x1.2 = (0 : Int))) && (decide (x4.2 = (0 : Int)))) && (decide (x7.2 = (0 : Int)))) && (decide (((List.length x1.1 : Nat) : Int) = (2 : Int)))) && (decide (((List.length x7.1 : Nat) : Int) = (2 : Int)))) && (decide (((List.getD x7.1 (Int.toNat (0 : Int)) default).At) = (2 : Int)))) && (decide (((List.getD x7.1 (Int.toNat (0 : Int)) default).Net) = (1 : Int)))) && (decide (((List.getD x7.1 (Int.toNat (1 : Int)) default).At) = (9 : Int))))) = true → 0 ≤ (1 : Int) ∧ (1 : Int) < ((List.length x7.1 : Nat) : Int))] ⟨c10, c11, c12, c13, trivial⟩ ?_
  obtain ⟨x14, hx15, h0⟩ := bindE h0
  refine R_callO [(76, true)] 17 [(eL e_api_Edge x7.1)] (eBool x14) (((((((((decide (x1.2 = (0 : Int))) && (decide (x4.2 = (0 : Int)))) && (decide (x7.2 = (0 : Int)))) && (decide (((List.length x1.1 : Nat) : Int) = (2 : Int)))) && (decide (((List.length x7.1 : Nat) : Int) = (2 : Int)))) && (decide (((List.getD x7.1 (Int.toNat (0 : Int)) default).At) = (2 : Int)))) && (decide (((List.getD x7.1 (Int.toNat (0 : Int)) default).Net) = (1 : Int)))) && (decide (((List.getD x7.1 (Int.toNat (1 : Int)) default).At) = (9 : Int)))) && (decide (((List.getD x7.1 (Int.toNat (1 : Int)) default).Net) = (-1 : Int)))) (by kernel_rfl) (by kernel_rfl) (by kernel_rfl) (fun hb16 => (w_edge_Table x7.1 _ (gcallE hx15 hb16))) hO ?_
  intro H hO
  refine R_pu 53 ?_
  obtain ⟨x17, hx18, h0⟩ := bindE h0
  refine R_callO [(80, true)] 25 [(.sl true 0 (fun _ => .bad))] (eBool x17) ((((((((((decide (x1.2 = (0 : Int))) && (decide (x4.2 = (0 : Int)))) && (decide (x7.2 = (0 : Int)))) && (decide (((List.length x1.1 : Nat) : Int) = (2 : Int)))) && (decide (((List.length x7.1 : Nat) : Int) = (2 : Int)))) && (decide (((List.getD x7.1 (Int.toNat (0 : Int)) default).At) = (2 : Int)))) && (decide (((List.getD x7.1 (Int.toNat (0 : Int)) default).Net) = (1 : Int)))) && (decide (((List.getD x7.1 (Int.toNat (1 : Int)) default).At) = (9 : Int)))) && (decide (((List.getD x7.1 (Int.toNat (1 : Int)) default).Net) = (-1 : Int)))) && x14) (by kernel_rfl) (by kernel_rfl) (by kernel_rfl) (fun hb19 => (Fine.sub (w_edge_May ([]) _ (gcallE hx18 hb19)) ⟨subNilL, trivial⟩)) hO ?_
  intro H hO
  refine R_al ?_
  refine E_tn [(0, (eBool (((((((((((decide (x1.2 = (0 : Int))) && (decide (x4.2 = (0 : Int)))) && (decide (x7.2 = (0 : Int)))) && (decide (((List.length x1.1 : Nat) : Int) = (2 : Int)))) && (decide (((List.length x7.1 : Nat) : Int) = (2 : Int)))) && (decide (((List.getD x7.1 (Int.toNat (0 : Int)) default).At) = (2 : Int)))) && (decide (((List.getD x7.1 (Int.toNat (0 : Int)) default).Net) = (1 : Int)))) && (decide (((List.getD x7.1 (Int.toNat (1 : Int)) default).At) = (9 : Int)))) && (decide (((List.getD x7.1 (Int.toNat (1 : Int)) default).Net) = (-1 : Int)))) && x14) && x17)))] ?_
  refine C_rt ?_
  obtain rfl := Option.some.inj h0
  exact E_done (Q_ret (x := (eBool (((((((((((decide (x1.2 = (0 : Int))) && (decide (x4.2 = (0 : Int)))) && (decide (x7.2 = (0 : Int)))) && (decide (((List.length x1.1 : Nat) : Int) = (2 : Int)))) && (decide (((List.length x7.1 : Nat) : Int) = (2 : Int)))) && (decide (((List.getD x7.1 (Int.toNat (0 : Int)) default).At) = (2 : Int)))) && (decide (((List.getD x7.1 (Int.toNat (0 : Int)) default).Net) = (1 : Int)))) && (decide (((List.getD x7.1 (Int.toNat (1 : Int)) default).At) = (9 : Int)))) && (decide (((List.getD x7.1 (Int.toNat (1 : Int)) default).Net) = (-1 : Int)))) && x14) && x17))) (by kernel_rfl) (SubV.refl _) ⟨rfl, hO.out⟩)

theorem w_ref09_Norm (l0 : (List api_Jump)) (r : ((List api_Jump) × Int)) (h0 : s_ref09_Norm l0 = some r) : Fine Try.prog 66 [(eL e_api_Jump l0)] (.tup [(eL e_api_Jump r.1), (eInt .i64 r.2)]) := by
  intro H0
  refine F_wk Try.func66 ?_
  have hO := Owns.start H0
  unfold s_ref09_Norm at h0
  refine S_al ttOk 2 [] [] ?_
  refine C_sj (fun T H => Has T [(0, (eL e_api_Jump l0))] ∧ Owns ⟨H0, [], []⟩ H [] ∧ ref09_Norm_j1 l0 = some r) ?_ ?_
  · clear hO h0
    rintro T H ⟨hT, hO, h0⟩
    refine C_has hT ?_
    clear hT
    unfold ref09_Norm_j1 at h0
    refine C_sq ?_
    refine C_rg ttOk 2 ?_
    refine R_bsl (xs := []) (k := 1) (by kernel_rfl) (by kernel_rfl) ?_
    refine R_al ?_
    refine E_ad [] [(5, (.sl true 0 (fun _ => .bad)))] ?_
    refine C_sj (fun T H => ∃ places5 : (List Int), Has T [(0, (eL e_api_Jump l0)), (5, (eL (eInt .i64) places5))] ∧ Owns ⟨H0, [], []⟩ H [] ∧ ref09_Norm_j2 l0 places5 = some r) ?_ ?_
    · clear hO h0
      rintro T H ⟨places5, hT, hO, h0⟩
      refine C_has hT ?_
      clear hT
      unfold ref09_Norm_j2 at h0
      refine C_sq ?_
      refine C_rg ttOk 2 ?_
      refine R_bsl (xs := []) (k := 1) (by kernel_rfl) (by kernel_rfl) ?_
      refine R_al ?_
      refine E_ad [] [(7, (.sl true 0 (fun _ => .bad)))] ?_
      refine C_sj (fun T H => ∃ values7 : List Int, ∃ lo1 : Nat, Has T [(5, (eL (eInt .i64) places5)), (7, (.msl 1 lo1 0 (List.length values7)))] ∧ Owns ⟨H0, [], []⟩ H [(lo1, 1, List.map (eInt .i64) values7)] ∧ ref09_Norm_j3 places5 values7 = some r) ?_ ?_
      · clear hO h0
        rintro T H ⟨values7, lo1, hT, hO, h0⟩
        refine C_has hT ?_
        clear hT
        unfold ref09_Norm_j3 at h0
        refine C_sq ?_
        refine C_rg ttOk 7 ?_
        refine R_freezeO (e := (eInt .i64)) values7 0 7 1 lo1 (List.length values7) [] (by kernel_rfl) hO (by kernel_rfl) (by kernel_rfl) (by kernel_rfl) (by kernel_rfl) ?_
        intro H hO
        refine R_pu 2 ?_
        obtain ⟨x2, hx3, h0⟩ := bindE h0
        refine R_cO 47 [(eL (eInt .i64) places5), (eL (eInt .i64) values7)] (.tup [(eL e_api_Jump x2.1), (eInt .i64 x2.2)]) (w_ref09_Told places5 values7 _ hx3) hO ?_
        intro H hO
        refine R_al ?_
        refine E_tn [(2, (eL e_api_Jump x2.1)), (3, (eInt .i64 x2.2))] ?_
        refine C_rt ?_
        obtain rfl := Option.some.inj h0
        exact E_done (Q_ret (x := (.tup [(eL e_api_Jump x2.1), (eInt .i64 x2.2)])) (by kernel_rfl) (SubV.refl _) ⟨rfl, hO.out⟩)
      refine S_al ttOk 1 [] [(8, (eInt .i64 (0 : Int)))] ?_
      refine C_bk 4 ?_
      refine C_hk [(0, (eL e_api_Jump l0)), (5, (eL (eInt .i64) places5)), (7, (.sl true 0 (fun _ => .bad))), (8, (eInt .i64 (0 : Int)))] ?_
      refine C_ownO (el := (fun _ => .bad)) 2 7 1 hO (by kernel_rfl) ?_
      intro lo14 H15 hO
      refine C_cut (fun T H => ∃ values7 : List Int, ∃ i8 : Int, ∃ lo6 : Nat, Has T [(0, (eL e_api_Jump l0)), (5, (eL (eInt .i64) places5)), (7, (.msl 1 lo6 0 (List.length values7))), (8, (eInt .i64 i8))] ∧ Owns ⟨H0, [], []⟩ H [(lo6, 1, List.map (eInt .i64) values7)] ∧ ref09_Norm_h4 l0 places5 values7 i8 = some r) ?_ ⟨([] : List Int), (0 : Int), lo14, .eq (by kernel_rfl), hO, h0⟩
      clear hO h0
      rintro T H ⟨values7, i8, lo6, hT, hO, h0⟩
      refine C_has hT ?_
      clear hT
      unfold ref09_Norm_h4 at h0
      obtain ⟨rr0, hl0, h0⟩ := bindE h0
      refine C_loopS (by kernel_rfl) (fun (s : List Int × Int) T H => ∃ lo6 : Nat, Has T [(0, (eL e_api_Jump l0)), (5, (eL (eInt .i64) places5)), (7, (.msl 1 lo6 0 (List.length s.1))), (8, (eInt .i64 s.2))] ∧ Owns ⟨H0, [], []⟩ H [(lo6, 1, List.map (eInt .i64) s.1)]) hl0 ⟨lo6, .eq (by kernel_rfl), hO⟩ ?_
      clear hO
      rintro k0 s out1 T H ⟨lo6, hT, hO⟩ h1 ho0
      obtain ⟨values7, i8⟩ := s
      replace h1 : ref09_Norm_l4 l0 places5 values7 i8 = some out1 := h1
      dsimp only at hT
      refine C_has hT ?_
      clear hT
      unfold ref09_Norm_l4 at h1
      refine C_sq ?_
      refine S_al ttOk 4 [] [(67, (eBool (decide (i8 < ((List.length places5 : Nat) : Int)))))] ?_
      refine C_cd h1 (fun h1 => ?_) (fun h1 => ?_)
      · refine C_sk ?_
        refine E_tn [(0, (eL e_api_Jump l0)), (5, (eL (eInt .i64) places5)), (7, (.msl 1 lo6 0 (List.length values7))), (8, (eInt .i64 i8))] ?_
        refine C_sq ?_
        refine C_bk 5 ?_
        refine C_rg ttOk 10 ?_
        obtain ⟨c8, h1⟩ := asrtE h1
        refine R_ps 6 [0 ≤ i8 ∧ i8 < ((List.length places5 : Nat) : Int)] ⟨c8, trivial⟩ ?_
        obtain ⟨x9, hx10, h1⟩ := bindE h1
        refine R_cO 20 [(eL e_api_Jump l0), (eInt .i64 (List.getD places5 (Int.toNat i8) default))] (eInt .i64 x9) (w_ref09_Value l0 (List.getD places5 (Int.toNat i8) default) _ hx10) hO ?_
        intro H hO
        refine R_bsl (xs := [(eInt .i64 x9)]) (k := 1) (by kernel_rfl) (by kernel_rfl) ?_
        obtain ⟨c13, h1⟩ := asrtE h1
        refine R_appOL (e := (eInt .i64)) values7 ([x9]) 0 lo6 1 8 (frozenOf [(eInt .i64 x9)]) (fun lo12 => [(lo12, 1, List.map (eInt .i64) (values7 ++ ([x9])))]) (by kernel_rfl) (by kernel_rfl) hO (by kernel_rfl) (by kernel_rfl) c13 (fun _ => by kernel_rfl) ?_
        intro lo12 H hO
        refine R_al ?_
        refine E_hk [(0, (eL e_api_Jump l0)), (5, (eL (eInt .i64) places5)), (7, (.msl 1 lo12 0 (List.length (values7 ++ ([x9]))))), (8, (eInt .i64 i8))] ?_
        refine E_done (blockA_normal (thenA_normal (?_)))
        refine C_rg ttOk 3 ?_
        refine R_al ?_
        exact E_done (thenA_normal (⟨rfl, (values7 ++ ([x9]), IntKind.i64.wrap (i8 + (1 : Int))), (Option.some.inj h1).symm, lo12, .eq (by kernel_rfl), hO⟩))
      refine C_ex 4 ?_
      obtain rfl := Option.some.inj h1
      obtain rfl : _ = rr0 := ho0
      replace h0 : ref09_Norm_j3 places5 values7 = some r := h0
      exact E_done (thenA_exit (thenA_exit (blockA_hit (thenA_normal (⟨rfl, values7, lo6, .eq (by kernel_rfl), hO, h0⟩)))))
    refine S_al ttOk 1 [] [(6, (eInt .i64 (0 : Int)))] ?_
    refine C_bk 2 ?_
    refine C_has (l := [(0, (eL e_api_Jump l0)), (5, (eL (eInt .i64) ([]))), (6, (eInt .i64 (0 : Int)))]) ⟨[(0, (eL e_api_Jump l0)), (5, (.sl true 0 (fun _ => .bad))), (6, (eInt .i64 (0 : Int)))], by kernel_rfl, rfl, ⟨SubV.refl _, subNilL, SubV.refl _, trivial⟩⟩ ?_
    refine C_cut (fun T H => ∃ places5 : (List Int), ∃ i6 : Int, Has T [(0, (eL e_api_Jump l0)), (5, (eL (eInt .i64) places5)), (6, (eInt .i64 i6))] ∧ Owns ⟨H0, [], []⟩ H [] ∧ ref09_Norm_h5 l0 places5 i6 = some r) ?_ ⟨[], (0 : Int), .eq (by kernel_rfl), hO, h0⟩
    clear hO h0
    rintro T H ⟨places5, i6, hT, hO, h0⟩
    refine C_has hT ?_
    clear hT
    unfold ref09_Norm_h5 at h0
    obtain ⟨rr0, hl0, h0⟩ := bindE h0
    refine C_loopS (by kernel_rfl) (fun (s : (List Int) × Int) T H => Has T [(0, (eL e_api_Jump l0)), (5, (eL (eInt .i64) s.1)), (6, (eInt .i64 s.2))] ∧ Owns ⟨H0, [], []⟩ H []) hl0 ⟨.eq (by kernel_rfl), hO⟩ ?_
    clear hO
    rintro k0 s out1 T H ⟨hT, hO⟩ h1 ho0
    obtain ⟨places5, i6⟩ := s
    replace h1 : ref09_Norm_l5 l0 places5 i6 = some out1 := h1
    dsimp only at hT
    refine C_has hT ?_
    clear hT
    unfold ref09_Norm_l5 at h1
    refine C_sq ?_
    refine S_al ttOk 4 [] [(33, (eBool (decide (i6 < ((List.length l0 : Nat) : Int)))))] ?_
    refine C_cd h1 (fun h1 => ?_) (fun h1 => ?_)
    · refine C_sk ?_
      refine E_tn [(0, (eL e_api_Jump l0)), (5, (eL (eInt .i64) places5)), (6, (eInt .i64 i6))] ?_
      refine C_sj (fun T H => ∃ places5 : (List Int), Has T [(0, (eL e_api_Jump l0)), (5, (eL (eInt .i64) places5)), (6, (eInt .i64 i6))] ∧ Owns ⟨H0, [], []⟩ H [] ∧ ref09_Norm_j6 l0 places5 i6 = some out1) ?_ ?_
      · clear hO h1
        rintro T H ⟨places5, hT, hO, h1⟩
        refine C_has hT ?_
        clear hT
        unfold ref09_Norm_j6 at h1
        refine C_rg ttOk 3 ?_
        refine R_al ?_
        exact E_done (thenA_normal (⟨rfl, (places5, IntKind.i64.wrap (i6 + (1 : Int))), (Option.some.inj h1).symm, .eq (by kernel_rfl), hO⟩))
      refine C_bk 3 ?_
      refine C_sq ?_
      refine C_sq ?_
      refine C_rg ttOk 14 ?_
      obtain ⟨c18, h1⟩ := asrtE h1
      obtain ⟨c19, h1⟩ := asrtE h1
      refine R_as [0 ≤ i6 ∧ i6 < ((List.length l0 : Nat) : Int), (((!(decide (((List.getD l0 (Int.toNat i6) default).At) < (-1 : Int))))) = true → 0 ≤ i6 ∧ i6 < ((List.length l0 : Nat) : Int))] ⟨c18, c19, trivial⟩ ?_
      refine E_ad [] [(49, (eBool ((decide (((List.getD l0 (Int.toNat i6) default).At) < (-1 : Int))) || (decide ((1125899906842624 : Int) < ((List.getD l0 (Int.toNat i6) default).At))))))] ?_
      refine C_cd h1 (fun h1 => ?_) (fun h1 => ?_)
      · refine S_tn ttOk 2 [(2, (.sl true 0 (fun _ => .bad))), (3, (eInt .i64 (13 : Int)))] ?_
        refine C_rt ?_
        refine E_has (l := [(2, (eL e_api_Jump ([]))), (3, (eInt .i64 (13 : Int)))]) ⟨[(2, (.sl true 0 (fun _ => .bad))), (3, (eInt .i64 (13 : Int)))], by kernel_rfl, rfl, ⟨subNilL, SubV.refl _, trivial⟩⟩ ?_
        obtain rfl := Option.some.inj h1
        obtain rfl : _ = rr0 := ho0
        replace h0 : some ([], (13 : Int)) = some r := h0
        obtain rfl := Option.some.inj h0
        exact E_done (thenA_ret (blockA_ret (thenA_ret (thenA_ret (blockA_ret (thenA_ret (Q_ret (x := (.tup [(eL e_api_Jump ([])), (eInt .i64 (13 : Int))])) (by kernel_rfl) (SubV.refl _) ⟨rfl, hO.out⟩)))))))
      refine C_sk ?_
      refine E_tn [(0, (eL e_api_Jump l0)), (5, (eL (eInt .i64) places5)), (6, (eInt .i64 i6))] ?_
      refine C_sq ?_
      refine C_rg ttOk 6 ?_
      obtain ⟨c21, h1⟩ := asrtE h1
      refine R_as [0 ≤ i6 ∧ i6 < ((List.length l0 : Nat) : Int)] ⟨c21, trivial⟩ ?_
      refine E_ad [] [(55, (eBool (decide (((List.getD l0 (Int.toNat i6) default).At) < (1125899906842624 : Int)))))] ?_
      refine C_cd h1 (fun h1 => ?_) (fun h1 => ?_)
      · refine C_rg ttOk 8 ?_
        obtain ⟨c23, h1⟩ := asrtE h1
        refine R_ps 6 [0 ≤ i6 ∧ i6 < ((List.length l0 : Nat) : Int)] ⟨c23, trivial⟩ ?_
        obtain ⟨x24, hx25, h1⟩ := bindE h1
        refine R_cO 46 [(eL (eInt .i64) places5), (eInt .i64 ((List.getD l0 (Int.toNat i6) default).At))] (eL (eInt .i64) x24) (w_ref09_With places5 ((List.getD l0 (Int.toNat i6) default).At) _ hx25) hO ?_
        intro H hO
        refine R_al ?_
        exact E_done (blockA_normal (thenA_normal (⟨rfl, x24, .eq (by kernel_rfl), hO, h1⟩)))
      refine C_sk ?_
      exact E_done (blockA_normal (thenA_normal (⟨rfl, places5, .eq (by kernel_rfl), hO, h1⟩)))
    refine C_ex 2 ?_
    obtain rfl := Option.some.inj h1
    obtain rfl : _ = rr0 := ho0
    replace h0 : ref09_Norm_j2 l0 places5 = some r := h0
    exact E_done (thenA_exit (thenA_exit (blockA_hit (thenA_normal (⟨rfl, places5, .eq (by kernel_rfl), hO, h0⟩)))))
  refine S_al ttOk 1 [] [(4, (eInt .i64 (0 : Int)))] ?_
  refine C_bk 0 ?_
  refine C_hk [(0, (eL e_api_Jump l0)), (4, (eInt .i64 (0 : Int)))] ?_
  refine C_cut (fun T H => ∃ i4 : Int, Has T [(0, (eL e_api_Jump l0)), (4, (eInt .i64 i4))] ∧ Owns ⟨H0, [], []⟩ H [] ∧ ref09_Norm_h7 l0 i4 = some r) ?_ ⟨(0 : Int), .eq (by kernel_rfl), hO, h0⟩
  clear hO h0
  rintro T H ⟨i4, hT, hO, h0⟩
  refine C_has hT ?_
  clear hT
  unfold ref09_Norm_h7 at h0
  obtain ⟨rr0, hl0, h0⟩ := bindE h0
  refine C_loopS (by kernel_rfl) (fun (s : Int) T H => Has T [(0, (eL e_api_Jump l0)), (4, (eInt .i64 s))] ∧ Owns ⟨H0, [], []⟩ H []) hl0 ⟨.eq (by kernel_rfl), hO⟩ ?_
  clear hO
  rintro k0 s out1 T H ⟨hT, hO⟩ h1 ho0
  obtain ⟨i4, rfl⟩ : ∃ x, x = s := ⟨_, rfl⟩
  replace h1 : ref09_Norm_l7 l0 i4 = some out1 := h1
  refine C_has hT ?_
  clear hT
  unfold ref09_Norm_l7 at h1
  refine C_sq ?_
  refine S_al ttOk 4 [] [(12, (eBool (decide (i4 < ((List.length l0 : Nat) : Int)))))] ?_
  refine C_cd h1 (fun h1 => ?_) (fun h1 => ?_)
  · refine C_sk ?_
    refine E_tn [(0, (eL e_api_Jump l0)), (4, (eInt .i64 i4))] ?_
    refine C_sq ?_
    refine C_bk 1 ?_
    refine C_sq ?_
    refine C_rg ttOk 14 ?_
    obtain ⟨c28, h1⟩ := asrtE h1
    obtain ⟨c29, h1⟩ := asrtE h1
    refine R_as [0 ≤ i4 ∧ i4 < ((List.length l0 : Nat) : Int), (((!(decide ((1048576 : Int) < ((List.getD l0 (Int.toNat i4) default).Net))))) = true → 0 ≤ i4 ∧ i4 < ((List.length l0 : Nat) : Int))] ⟨c28, c29, trivial⟩ ?_
    refine E_ad [] [(28, (eBool ((decide ((1048576 : Int) < ((List.getD l0 (Int.toNat i4) default).Net))) || (decide (((List.getD l0 (Int.toNat i4) default).Net) < (-1048576 : Int))))))] ?_
    refine C_cd h1 (fun h1 => ?_) (fun h1 => ?_)
    · refine S_tn ttOk 2 [(2, (.sl true 0 (fun _ => .bad))), (3, (eInt .i64 (2 : Int)))] ?_
      refine C_rt ?_
      refine E_has (l := [(2, (eL e_api_Jump ([]))), (3, (eInt .i64 (2 : Int)))]) ⟨[(2, (.sl true 0 (fun _ => .bad))), (3, (eInt .i64 (2 : Int)))], by kernel_rfl, rfl, ⟨subNilL, SubV.refl _, trivial⟩⟩ ?_
      obtain rfl := Option.some.inj h1
      obtain rfl : _ = rr0 := ho0
      replace h0 : some ([], (2 : Int)) = some r := h0
      obtain rfl := Option.some.inj h0
      exact E_done (blockA_ret (thenA_ret (thenA_ret (blockA_ret (thenA_ret (Q_ret (x := (.tup [(eL e_api_Jump ([])), (eInt .i64 (2 : Int))])) (by kernel_rfl) (SubV.refl _) ⟨rfl, hO.out⟩))))))
    refine C_sk ?_
    refine E_hk [(0, (eL e_api_Jump l0)), (4, (eInt .i64 i4))] ?_
    refine E_done (blockA_normal (thenA_normal (?_)))
    refine C_rg ttOk 3 ?_
    refine R_al ?_
    exact E_done (thenA_normal (⟨rfl, IntKind.i64.wrap (i4 + (1 : Int)), (Option.some.inj h1).symm, .eq (by kernel_rfl), hO⟩))
  refine C_ex 0 ?_
  obtain rfl := Option.some.inj h1
  obtain rfl : _ = rr0 := ho0
  replace h0 : ref09_Norm_j1 l0 = some r := h0
  exact E_done (thenA_exit (thenA_exit (blockA_hit (thenA_normal (⟨rfl, .eq (by kernel_rfl), hO, h0⟩)))))

end Go.Abs
