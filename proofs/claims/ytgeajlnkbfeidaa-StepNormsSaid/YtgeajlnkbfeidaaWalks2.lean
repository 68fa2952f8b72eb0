/- The walks of the given functions: printed by gen.py. -/
import Derived.Test.YtgeajlnkbfeidaaWalks1
namespace Go.Abs
open Go Go.RowKit Go.Proofs

theorem w_step_both (f0 : (List api_Jump)) (g1 : (List api_Jump)) (by2_f : Nat) (by2_a by2_c : List V) (by2 : Int → Int → Option Int) (by2_h : ∀ a0 a1 r, by2 a0 a1 = some r → Fine Try.prog by2_f (by2_a ++ [(eInt .i64 a0), (eInt .i64 a1)] ++ by2_c) (eInt .i64 r)) (r : ((List api_Jump) × Int)) (h0 : s_step_both f0 g1 by2 = some r) : Fine Try.prog 43 [(eL e_api_Jump f0), (eL e_api_Jump g1), (.fn (.func by2_f) by2_a by2_c)] (.tup [(eL e_api_Jump r.1), (eInt .i64 r.2)]) := by
  intro H0
  refine F_walk Try.func43 (by kernel_rfl) (by kernel_rfl) (by kernel_rfl) ?_
  have hO := Owns.start H0
  unfold s_step_both at h0
  refine C_seq (by kernel_rfl) ?_
  refine A_cl (C_region ttOk (n := 2) (by kernel_rfl) (by kernel_rfl) ?_)
  refine R_all (Ds := []) (by kernel_rfl) trivial ?_
  refine E_has (l := [(0, (eL e_api_Jump f0)), (1, (eL e_api_Jump g1)), (2, (.fn (.func by2_f) by2_a by2_c))]) (.eq (by kernel_rfl)) ?_
  refine E_done (thenA_normal (?_))
  refine C_seq (by kernel_rfl) ?_
  refine C_seq (by kernel_rfl) ?_
  refine A_cl (C_region ttOk (n := 8) (by kernel_rfl) (by kernel_rfl) ?_)
  refine R_pure 1 (by kernel_rfl) (Ds := []) (by kernel_rfl) trivial ?_
  obtain ⟨x1, hx2, h0⟩ := bindE h0
  refine R_callO [] 15 [(eL e_api_Jump f0)] (eBool x1) true (by kernel_rfl) (by kernel_rfl) (by kernel_rfl) (fun hb3 => (w_step_May f0 _ hx2)) hO ?_
  intro H hO
  refine R_pure 5 (by kernel_rfl) (Ds := []) (by kernel_rfl) trivial ?_
  obtain ⟨x4, hx5, h0⟩ := bindE h0
  refine R_callO [(17, false)] 15 [(eL e_api_Jump g1)] (eBool x4) (!(!x1)) (by kernel_rfl) (by kernel_rfl) (by kernel_rfl) (fun hb6 => (w_step_May g1 _ (gcallE hx5 hb6))) hO ?_
  intro H hO
  refine R_all (Ds := []) (by kernel_rfl) trivial ?_
  refine E_has (l := [(0, (eL e_api_Jump f0)), (1, (eL e_api_Jump g1)), (2, (.fn (.func by2_f) by2_a by2_c)), (21, (eBool ((!x1) || (!x4))))]) (.eq (by kernel_rfl)) ?_
  refine E_done (thenA_normal (?_))
  refine C_cond (b := (!x1) || (!x4)) (by kernel_rfl) (by kernel_rfl) (fun hc38 => ?_) (fun hc38 => ?_)
  · replace h0 := condT hc38 h0
    refine C_seq (by kernel_rfl) ?_
    refine A_cl (C_region ttOk (n := 2) (by kernel_rfl) (by kernel_rfl) ?_)
    refine R_all (Ds := []) (by kernel_rfl) trivial ?_
    refine E_has (l := [(6, (.sl true 0 (fun _ => .bad))), (7, (eInt .i64 (2 : Int)))]) (.eq (by kernel_rfl)) ?_
    refine E_done (thenA_normal (?_))
    refine A_cl (C_ret (by kernel_rfl) ?_)
    refine E_has (l := [(6, (eL e_api_Jump ([]))), (7, (eInt .i64 (2 : Int)))]) ⟨[(6, (.sl true 0 (fun _ => .bad))), (7, (eInt .i64 (2 : Int)))], by kernel_rfl, rfl, ⟨subNilL, SubV.refl _, trivial⟩⟩ ?_
    obtain rfl := Option.some.inj h0
    exact E_done (thenA_ret (Q_ret (x := (.tup [(eL e_api_Jump ([])), (eInt .i64 (2 : Int))])) (by kernel_rfl) (SubV.refl _) ⟨rfl, hO.out⟩))
  · replace h0 := condF hc38 h0
    refine A_cl (C_skip (by kernel_rfl) ?_)
    refine E_has (l := [(0, (eL e_api_Jump f0)), (1, (eL e_api_Jump g1)), (2, (.fn (.func by2_f) by2_a by2_c))]) (.eq (by kernel_rfl)) ?_
    refine E_done (thenA_normal (?_))
    refine C_seq (by kernel_rfl) ?_
    refine A_cl (C_region ttOk (n := 2) (by kernel_rfl) (by kernel_rfl) ?_)
    refine R_bsl (xs := []) (k := 2) (by kernel_rfl) (by kernel_rfl) ?_
    refine R_all (Ds := []) (by kernel_rfl) trivial ?_
    refine E_has (l := [(0, (eL e_api_Jump f0)), (1, (eL e_api_Jump g1)), (2, (.fn (.func by2_f) by2_a by2_c)), (8, (.sl true 0 (fun _ => .bad)))]) (.eq (by kernel_rfl)) ?_
    refine E_done (thenA_normal (?_))
    refine C_seq (by kernel_rfl) ?_
    refine A_cl (C_region ttOk (n := 3) (by kernel_rfl) (by kernel_rfl) ?_)
    refine R_all (Ds := []) (by kernel_rfl) trivial ?_
    refine E_has (l := [(0, (eL e_api_Jump f0)), (1, (eL e_api_Jump g1)), (2, (.fn (.func by2_f) by2_a by2_c)), (8, (.sl true 0 (fun _ => .bad))), (9, (eInt .i64 (0 : Int))), (10, (eInt .i64 (0 : Int))), (11, (eInt .i64 (0 : Int)))]) (.eq (by kernel_rfl)) ?_
    refine E_done (thenA_normal (?_))
    refine C_seqJ (by kernel_rfl) (fun T H => ∃ out8 : List api_Jump, ∃ lo7 : Nat, Has T [(8, (.msl 2 lo7 0 (List.length out8)))] ∧ Owns ⟨H0, []⟩ H [(lo7, 2, List.map e_api_Jump out8)] ∧ step_both_j1 by2 out8 = some r) ?_ ?_
    · clear hO h0
      rintro T H ⟨out8, lo7, hT, hO, h0⟩
      refine C_has hT ?_
      clear hT
      unfold step_both_j1 at h0
      refine C_seq (by kernel_rfl) ?_
      refine A_cl (C_region ttOk (n := 6) (by kernel_rfl) (by kernel_rfl) ?_)
      refine R_freezeO (e := e_api_Jump) out8 0 8 2 lo7 (List.length out8) [] (by kernel_rfl) hO (by kernel_rfl) (by kernel_rfl) (by kernel_rfl) (by kernel_rfl) ?_
      intro H hO
      refine R_pure 1 (by kernel_rfl) (Ds := []) (by kernel_rfl) trivial ?_
      obtain ⟨x8, hx9, h0⟩ := bindE h0
      refine R_callO [] 39 [(eL e_api_Jump out8)] (.tup [(eL e_api_Jump x8.1), (eInt .i64 x8.2)]) true (by kernel_rfl) (by kernel_rfl) (by kernel_rfl) (fun hb10 => (w_step_told out8 _ hx9)) hO ?_
      intro H hO
      refine R_all (Ds := []) (by kernel_rfl) trivial ?_
      refine E_has (l := [(6, (eL e_api_Jump x8.1)), (7, (eInt .i64 x8.2))]) (.eq (by kernel_rfl)) ?_
      refine E_done (thenA_normal (?_))
      refine A_cl (C_ret (by kernel_rfl) ?_)
      refine E_has (l := [(6, (eL e_api_Jump x8.1)), (7, (eInt .i64 x8.2))]) (.eq (by kernel_rfl)) ?_
      obtain rfl := Option.some.inj h0
      exact E_done (Q_ret (x := (.tup [(eL e_api_Jump x8.1), (eInt .i64 x8.2)])) (by kernel_rfl) (SubV.refl _) ⟨rfl, hO.out⟩)
    · refine C_block (id := 0) (by kernel_rfl) (by kernel_rfl) ?_
      refine C_has (l := [(0, (eL e_api_Jump f0)), (1, (eL e_api_Jump g1)), (2, (.fn (.func by2_f) by2_a by2_c)), (8, (.sl true 0 (fun _ => .bad))), (9, (eInt .i64 (0 : Int))), (10, (eInt .i64 (0 : Int))), (11, (eInt .i64 (0 : Int)))]) (.eq (by kernel_rfl)) ?_
      refine C_ownO (el := (fun _ => .bad)) 3 8 2 hO (by kernel_rfl) ?_
      intro lo36 H37 hO
      refine C_cut (fun T H => ∃ f0 : (List api_Jump), ∃ g1 : (List api_Jump), ∃ out8 : List api_Jump, ∃ a9 : Int, ∃ b10 : Int, ∃ was11 : Int, ∃ lo12 : Nat, Has T [(0, (eL e_api_Jump f0)), (1, (eL e_api_Jump g1)), (2, (.fn (.func by2_f) by2_a by2_c)), (8, (.msl 2 lo12 0 (List.length out8))), (9, (eInt .i64 a9)), (10, (eInt .i64 b10)), (11, (eInt .i64 was11))] ∧ Owns ⟨H0, []⟩ H [(lo12, 2, List.map e_api_Jump out8)] ∧ step_both_h2 by2 f0 g1 out8 a9 b10 was11 = some r) ?_ ⟨f0, g1, ([] : List api_Jump), (0 : Int), (0 : Int), (0 : Int), lo36, .eq (by kernel_rfl), hO, h0⟩
      clear hO h0
      rintro T H ⟨f0, g1, out8, a9, b10, was11, lo12, hT, hO, h0⟩
      refine C_has hT ?_
      clear hT
      unfold step_both_h2 at h0
      obtain ⟨rr0, hl0, h0⟩ := bindE h0
      refine C_loopS (by kernel_rfl) (fun (s : (List api_Jump) × (List api_Jump) × List api_Jump × Int × Int × Int) T H => ∃ lo12 : Nat, Has T [(0, (eL e_api_Jump s.1)), (1, (eL e_api_Jump s.2.1)), (2, (.fn (.func by2_f) by2_a by2_c)), (8, (.msl 2 lo12 0 (List.length s.2.2.1))), (9, (eInt .i64 s.2.2.2.1)), (10, (eInt .i64 s.2.2.2.2.1)), (11, (eInt .i64 s.2.2.2.2.2))] ∧ Owns ⟨H0, []⟩ H [(lo12, 2, List.map e_api_Jump s.2.2.1)]) hl0 ⟨lo12, .eq (by kernel_rfl), hO⟩ ?_
      clear hO
      rintro k0 s out1 T H ⟨lo12, hT, hO⟩ h1 ho0
      obtain ⟨f0, g1, out8, a9, b10, was11⟩ := s
      replace h1 : step_both_l2 by2 f0 g1 out8 a9 b10 was11 = some out1 := h1
      refine C_has (l := [(0, (eL e_api_Jump f0)), (1, (eL e_api_Jump g1)), (2, (.fn (.func by2_f) by2_a by2_c)), (8, (.msl 2 lo12 0 (List.length out8))), (9, (eInt .i64 a9)), (10, (eInt .i64 b10)), (11, (eInt .i64 was11))]) hT ?_
      clear hT
      unfold step_both_l2 at h1
      refine C_seq (by kernel_rfl) ?_
      refine C_seq (by kernel_rfl) ?_
      refine A_cl (C_region ttOk (n := 8) (by kernel_rfl) (by kernel_rfl) ?_)
      refine R_all (Ds := []) (by kernel_rfl) trivial ?_
      refine E_has (l := [(0, (eL e_api_Jump f0)), (1, (eL e_api_Jump g1)), (2, (.fn (.func by2_f) by2_a by2_c)), (8, (.msl 2 lo12 0 (List.length out8))), (9, (eInt .i64 a9)), (10, (eInt .i64 b10)), (11, (eInt .i64 was11)), (30, (eBool ((decide ((0 : Int) < ((List.length f0 : Nat) : Int))) || (decide ((0 : Int) < ((List.length g1 : Nat) : Int))))))]) (.eq (by kernel_rfl)) ?_
      refine E_done (thenA_normal (?_))
      refine C_cond (b := (decide ((0 : Int) < ((List.length f0 : Nat) : Int))) || (decide ((0 : Int) < ((List.length g1 : Nat) : Int)))) (by kernel_rfl) (by kernel_rfl) (fun hc35 => ?_) (fun hc35 => ?_)
      · replace h1 := condT hc35 h1
        refine A_cl (C_skip (by kernel_rfl) ?_)
        refine E_has (l := [(0, (eL e_api_Jump f0)), (1, (eL e_api_Jump g1)), (2, (.fn (.func by2_f) by2_a by2_c)), (8, (.msl 2 lo12 0 (List.length out8))), (9, (eInt .i64 a9)), (10, (eInt .i64 b10)), (11, (eInt .i64 was11))]) (.eq (by kernel_rfl)) ?_
        refine E_done (thenA_normal (?_))
        refine C_block (id := 1) (by kernel_rfl) (by kernel_rfl) ?_
        refine C_seq (by kernel_rfl) ?_
        refine A_cl (C_region ttOk (n := 1) (by kernel_rfl) (by kernel_rfl) ?_)
        refine R_all (Ds := []) (by kernel_rfl) trivial ?_
        refine E_has (l := [(0, (eL e_api_Jump f0)), (1, (eL e_api_Jump g1)), (2, (.fn (.func by2_f) by2_a by2_c)), (8, (.msl 2 lo12 0 (List.length out8))), (9, (eInt .i64 a9)), (10, (eInt .i64 b10)), (11, (eInt .i64 was11)), (12, (eInt .i64 (1125899906842624 : Int)))]) (.eq (by kernel_rfl)) ?_
        refine E_done (thenA_normal (?_))
        refine C_seqJ (by kernel_rfl) (fun T H => ∃ out8 : List api_Jump, ∃ at12 : Int, ∃ lo13 : Nat, Has T [(0, (eL e_api_Jump f0)), (1, (eL e_api_Jump g1)), (2, (.fn (.func by2_f) by2_a by2_c)), (8, (.msl 2 lo13 0 (List.length out8))), (9, (eInt .i64 a9)), (10, (eInt .i64 b10)), (11, (eInt .i64 was11)), (12, (eInt .i64 at12))] ∧ Owns ⟨H0, []⟩ H [(lo13, 2, List.map e_api_Jump out8)] ∧ step_both_j3 by2 f0 g1 out8 a9 b10 was11 at12 = some out1) ?_ ?_
        · clear hO h1
          rintro T H ⟨out8, at12, lo13, hT, hO, h1⟩
          refine C_has hT ?_
          clear hT
          unfold step_both_j3 at h1
          refine C_seqJ (by kernel_rfl) (fun T H => ∃ out8 : List api_Jump, ∃ at12 : Int, ∃ lo14 : Nat, Has T [(0, (eL e_api_Jump f0)), (1, (eL e_api_Jump g1)), (2, (.fn (.func by2_f) by2_a by2_c)), (8, (.msl 2 lo14 0 (List.length out8))), (9, (eInt .i64 a9)), (10, (eInt .i64 b10)), (11, (eInt .i64 was11)), (12, (eInt .i64 at12))] ∧ Owns ⟨H0, []⟩ H [(lo14, 2, List.map e_api_Jump out8)] ∧ step_both_j4 by2 f0 g1 out8 a9 b10 was11 at12 = some out1) ?_ ?_
          · clear hO h1
            rintro T H ⟨out8, at12, lo14, hT, hO, h1⟩
            refine C_has hT ?_
            clear hT
            unfold step_both_j4 at h1
            refine C_seqJ (by kernel_rfl) (fun T H => ∃ f0 : (List api_Jump), ∃ out8 : List api_Jump, ∃ a9 : Int, ∃ lo15 : Nat, Has T [(0, (eL e_api_Jump f0)), (1, (eL e_api_Jump g1)), (2, (.fn (.func by2_f) by2_a by2_c)), (8, (.msl 2 lo15 0 (List.length out8))), (9, (eInt .i64 a9)), (10, (eInt .i64 b10)), (11, (eInt .i64 was11)), (12, (eInt .i64 at12))] ∧ Owns ⟨H0, []⟩ H [(lo15, 2, List.map e_api_Jump out8)] ∧ step_both_j5 by2 f0 g1 out8 a9 b10 was11 at12 = some out1) ?_ ?_
            · clear hO h1
              rintro T H ⟨f0, out8, a9, lo15, hT, hO, h1⟩
              refine C_has hT ?_
              clear hT
              unfold step_both_j5 at h1
              refine C_seqJ (by kernel_rfl) (fun T H => ∃ g1 : (List api_Jump), ∃ out8 : List api_Jump, ∃ b10 : Int, ∃ lo16 : Nat, Has T [(0, (eL e_api_Jump f0)), (1, (eL e_api_Jump g1)), (2, (.fn (.func by2_f) by2_a by2_c)), (8, (.msl 2 lo16 0 (List.length out8))), (9, (eInt .i64 a9)), (10, (eInt .i64 b10)), (11, (eInt .i64 was11)), (12, (eInt .i64 at12))] ∧ Owns ⟨H0, []⟩ H [(lo16, 2, List.map e_api_Jump out8)] ∧ step_both_j6 by2 f0 g1 out8 a9 b10 was11 at12 = some out1) ?_ ?_
              · clear hO h1
                rintro T H ⟨g1, out8, b10, lo16, hT, hO, h1⟩
                refine C_has hT ?_
                clear hT
                unfold step_both_j6 at h1
                refine C_seq (by kernel_rfl) ?_
                refine A_cl (C_region ttOk (n := 5) (by kernel_rfl) (by kernel_rfl) ?_)
                refine R_pure 3 (by kernel_rfl) (Ds := []) (by kernel_rfl) trivial ?_
                obtain ⟨x17, hx18, h1⟩ := bindE h1
                refine R_callO [] by2_f (by2_a ++ [(eInt .i64 a9), (eInt .i64 b10)] ++ by2_c) (eInt .i64 x17) true (by kernel_rfl) (by kernel_rfl) (by kernel_rfl) (fun hb19 => (by2_h a9 b10 _ hx18)) hO ?_
                intro H hO
                refine R_all (Ds := []) (by kernel_rfl) trivial ?_
                refine E_has (l := [(0, (eL e_api_Jump f0)), (1, (eL e_api_Jump g1)), (2, (.fn (.func by2_f) by2_a by2_c)), (8, (.msl 2 lo16 0 (List.length out8))), (9, (eInt .i64 a9)), (10, (eInt .i64 b10)), (11, (eInt .i64 was11)), (12, (eInt .i64 at12)), (13, (eInt .i64 x17))]) (.eq (by kernel_rfl)) ?_
                refine E_done (thenA_normal (?_))
                refine C_seq (by kernel_rfl) ?_
                refine A_cl (C_region ttOk (n := 3) (by kernel_rfl) (by kernel_rfl) ?_)
                refine R_all (Ds := []) (by kernel_rfl) trivial ?_
                refine E_has (l := [(0, (eL e_api_Jump f0)), (1, (eL e_api_Jump g1)), (2, (.fn (.func by2_f) by2_a by2_c)), (8, (.msl 2 lo16 0 (List.length out8))), (9, (eInt .i64 a9)), (10, (eInt .i64 b10)), (11, (eInt .i64 was11)), (12, (eInt .i64 at12)), (13, (eInt .i64 x17)), (91, (eBool (!decide (x17 = was11))))]) (.eq (by kernel_rfl)) ?_
                refine E_done (thenA_normal (?_))
                refine C_cond (b := !decide (x17 = was11)) (by kernel_rfl) (by kernel_rfl) (fun hc22 => ?_) (fun hc22 => ?_)
                · replace h1 := condT hc22 h1
                  refine C_seq (by kernel_rfl) ?_
                  refine A_cl (C_region ttOk (n := 9) (by kernel_rfl) (by kernel_rfl) ?_)
                  refine R_pure 6 (by kernel_rfl) (Ds := []) (by kernel_rfl) trivial ?_
                  refine R_bsl (xs := [(e_api_Jump (api_Jump.mk at12 (IntKind.i64.wrap (x17 - was11))))]) (k := 2) (by kernel_rfl) (by kernel_rfl) ?_
                  obtain ⟨c21, h1⟩ := asrtE h1
                  refine R_appOL (e := e_api_Jump) out8 ([api_Jump.mk at12 (IntKind.i64.wrap (x17 - was11))]) 0 lo16 2 16 (frozenOf [(e_api_Jump (api_Jump.mk at12 (IntKind.i64.wrap (x17 - was11))))]) (fun lo20 => [(lo20, 2, List.map e_api_Jump (out8 ++ ([api_Jump.mk at12 (IntKind.i64.wrap (x17 - was11))])))]) (by kernel_rfl) (by kernel_rfl) hO (by kernel_rfl) (by kernel_rfl) c21 (fun _ => by kernel_rfl) ?_
                  intro lo20 H hO
                  refine R_all (Ds := []) (by kernel_rfl) trivial ?_
                  refine E_has (l := [(0, (eL e_api_Jump f0)), (1, (eL e_api_Jump g1)), (2, (.fn (.func by2_f) by2_a by2_c)), (8, (.msl 2 lo20 0 (List.length (out8 ++ ([api_Jump.mk at12 (IntKind.i64.wrap (x17 - was11))]))))), (9, (eInt .i64 a9)), (10, (eInt .i64 b10)), (13, (eInt .i64 x17))]) (.eq (by kernel_rfl)) ?_
                  refine E_done (thenA_normal (?_))
                  refine A_cl (C_region ttOk (n := 2) (by kernel_rfl) (by kernel_rfl) ?_)
                  refine R_all (Ds := []) (by kernel_rfl) trivial ?_
                  refine E_has (l := [(0, (eL e_api_Jump f0)), (1, (eL e_api_Jump g1)), (2, (.fn (.func by2_f) by2_a by2_c)), (8, (.msl 2 lo20 0 (List.length (out8 ++ ([api_Jump.mk at12 (IntKind.i64.wrap (x17 - was11))]))))), (9, (eInt .i64 a9)), (10, (eInt .i64 b10)), (11, (eInt .i64 x17))]) (.eq (by kernel_rfl)) ?_
                  exact E_done (blockA_normal (thenA_normal (⟨rfl, (f0, g1, out8 ++ ([api_Jump.mk at12 (IntKind.i64.wrap (x17 - was11))]), a9, b10, x17), (Option.some.inj h1).symm, lo20, .eq (by kernel_rfl), hO⟩)))
                · replace h1 := condF hc22 h1
                  refine A_cl (C_skip (by kernel_rfl) ?_)
                  refine E_has (l := [(0, (eL e_api_Jump f0)), (1, (eL e_api_Jump g1)), (2, (.fn (.func by2_f) by2_a by2_c)), (8, (.msl 2 lo16 0 (List.length out8))), (9, (eInt .i64 a9)), (10, (eInt .i64 b10)), (11, (eInt .i64 was11))]) (.eq (by kernel_rfl)) ?_
                  exact E_done (blockA_normal (thenA_normal (⟨rfl, (f0, g1, out8, a9, b10, was11), (Option.some.inj h1).symm, lo16, .eq (by kernel_rfl), hO⟩)))
              · refine C_seq (by kernel_rfl) ?_
                refine A_cl (C_region ttOk (n := 11) (by kernel_rfl) (by kernel_rfl) ?_)
                obtain ⟨c23, h1⟩ := asrtE h1
                refine R_all (Ds := [(((decide ((0 : Int) < ((List.length g1 : Nat) : Int)))) = true → 0 ≤ (0 : Int) ∧ (0 : Int) < ((List.length g1 : Nat) : Int))]) (by kernel_rfl) ⟨c23, trivial⟩ ?_
                refine E_has (l := [(0, (eL e_api_Jump f0)), (1, (eL e_api_Jump g1)), (2, (.fn (.func by2_f) by2_a by2_c)), (8, (.msl 2 lo15 0 (List.length out8))), (9, (eInt .i64 a9)), (10, (eInt .i64 b10)), (11, (eInt .i64 was11)), (12, (eInt .i64 at12)), (76, (eBool ((decide ((0 : Int) < ((List.length g1 : Nat) : Int))) && (decide (((List.getD g1 (Int.toNat (0 : Int)) default).At) = at12)))))]) (.eq (by kernel_rfl)) ?_
                refine E_done (thenA_normal (?_))
                refine C_cond (b := (decide ((0 : Int) < ((List.length g1 : Nat) : Int))) && (decide (((List.getD g1 (Int.toNat (0 : Int)) default).At) = at12))) (by kernel_rfl) (by kernel_rfl) (fun hc26 => ?_) (fun hc26 => ?_)
                · replace h1 := condT hc26 h1
                  refine A_cl (C_draw ttOk (by kernel_rfl) (n := 10) (by kernel_rfl) (by kernel_rfl) (by kernel_rfl) ?_)
                  obtain ⟨c24, h1⟩ := asrtE h1
                  obtain ⟨c25, h1⟩ := asrtE h1
                  refine D_all (Ds := [0 ≤ (0 : Int) ∧ (0 : Int) < ((List.length g1 : Nat) : Int), 0 ≤ (1 : Int) ∧ (1 : Int) ≤ ((List.length g1 : Nat) : Int)]) (by kernel_rfl) ⟨c24, c25, trivial⟩ ?_
                  refine E_has (l := [(0, (eL e_api_Jump f0)), (1, (eL e_api_Jump (List.drop (Int.toNat (1 : Int)) g1))), (2, (.fn (.func by2_f) by2_a by2_c)), (8, (.msl 2 lo15 0 (List.length out8))), (9, (eInt .i64 a9)), (10, (eInt .i64 (IntKind.i64.wrap (b10 + ((List.getD g1 (Int.toNat (0 : Int)) default).Net))))), (11, (eInt .i64 was11)), (12, (eInt .i64 at12))]) ⟨[(0, (eL e_api_Jump f0)), (1, (.sl false (List.length g1 - Int.toNat (1 : Int)) (fun i => e_api_Jump (List.getD g1 (Int.toNat (1 : Int) + i) default)))), (2, (.fn (.func by2_f) by2_a by2_c)), (8, (.msl 2 lo15 0 (List.length out8))), (9, (eInt .i64 a9)), (10, (eInt .i64 (IntKind.i64.wrap (b10 + ((List.getD g1 (Int.toNat (0 : Int)) default).Net))))), (11, (eInt .i64 was11)), (12, (eInt .i64 at12))], by kernel_rfl, rfl, ⟨SubV.refl _, subDrop, SubV.refl _, SubV.refl _, SubV.refl _, SubV.refl _, SubV.refl _, SubV.refl _, trivial⟩⟩ ?_
                  exact E_done (thenA_normal (⟨rfl, List.drop (Int.toNat (1 : Int)) g1, out8, IntKind.i64.wrap (b10 + ((List.getD g1 (Int.toNat (0 : Int)) default).Net)), lo15, .eq (by kernel_rfl), hO, h1⟩))
                · replace h1 := condF hc26 h1
                  refine A_cl (C_skip (by kernel_rfl) ?_)
                  refine E_has (l := [(0, (eL e_api_Jump f0)), (1, (eL e_api_Jump g1)), (2, (.fn (.func by2_f) by2_a by2_c)), (8, (.msl 2 lo15 0 (List.length out8))), (9, (eInt .i64 a9)), (10, (eInt .i64 b10)), (11, (eInt .i64 was11)), (12, (eInt .i64 at12))]) (.eq (by kernel_rfl)) ?_
                  exact E_done (thenA_normal (⟨rfl, g1, out8, b10, lo15, .eq (by kernel_rfl), hO, h1⟩))
            · refine C_seq (by kernel_rfl) ?_
              refine A_cl (C_region ttOk (n := 11) (by kernel_rfl) (by kernel_rfl) ?_)
              obtain ⟨c27, h1⟩ := asrtE h1
              refine R_all (Ds := [(((decide ((0 : Int) < ((List.length f0 : Nat) : Int)))) = true → 0 ≤ (0 : Int) ∧ (0 : Int) < ((List.length f0 : Nat) : Int))]) (by kernel_rfl) ⟨c27, trivial⟩ ?_
              refine E_has (l := [(0, (eL e_api_Jump f0)), (1, (eL e_api_Jump g1)), (2, (.fn (.func by2_f) by2_a by2_c)), (8, (.msl 2 lo14 0 (List.length out8))), (9, (eInt .i64 a9)), (10, (eInt .i64 b10)), (11, (eInt .i64 was11)), (12, (eInt .i64 at12)), (57, (eBool ((decide ((0 : Int) < ((List.length f0 : Nat) : Int))) && (decide (((List.getD f0 (Int.toNat (0 : Int)) default).At) = at12)))))]) (.eq (by kernel_rfl)) ?_
              refine E_done (thenA_normal (?_))
              refine C_cond (b := (decide ((0 : Int) < ((List.length f0 : Nat) : Int))) && (decide (((List.getD f0 (Int.toNat (0 : Int)) default).At) = at12))) (by kernel_rfl) (by kernel_rfl) (fun hc30 => ?_) (fun hc30 => ?_)
              · replace h1 := condT hc30 h1
                refine A_cl (C_draw ttOk (by kernel_rfl) (n := 10) (by kernel_rfl) (by kernel_rfl) (by kernel_rfl) ?_)
                obtain ⟨c28, h1⟩ := asrtE h1
                obtain ⟨c29, h1⟩ := asrtE h1
                refine D_all (Ds := [0 ≤ (0 : Int) ∧ (0 : Int) < ((List.length f0 : Nat) : Int), 0 ≤ (1 : Int) ∧ (1 : Int) ≤ ((List.length f0 : Nat) : Int)]) (by kernel_rfl) ⟨c28, c29, trivial⟩ ?_
                refine E_has (l := [(0, (eL e_api_Jump (List.drop (Int.toNat (1 : Int)) f0))), (1, (eL e_api_Jump g1)), (2, (.fn (.func by2_f) by2_a by2_c)), (8, (.msl 2 lo14 0 (List.length out8))), (9, (eInt .i64 (IntKind.i64.wrap (a9 + ((List.getD f0 (Int.toNat (0 : Int)) default).Net))))), (10, (eInt .i64 b10)), (11, (eInt .i64 was11)), (12, (eInt .i64 at12))]) ⟨[(0, (.sl false (List.length f0 - Int.toNat (1 : Int)) (fun i => e_api_Jump (List.getD f0 (Int.toNat (1 : Int) + i) default)))), (1, (eL e_api_Jump g1)), (2, (.fn (.func by2_f) by2_a by2_c)), (8, (.msl 2 lo14 0 (List.length out8))), (9, (eInt .i64 (IntKind.i64.wrap (a9 + ((List.getD f0 (Int.toNat (0 : Int)) default).Net))))), (10, (eInt .i64 b10)), (11, (eInt .i64 was11)), (12, (eInt .i64 at12))], by kernel_rfl, rfl, ⟨subDrop, SubV.refl _, SubV.refl _, SubV.refl _, SubV.refl _, SubV.refl _, SubV.refl _, SubV.refl _, trivial⟩⟩ ?_
                exact E_done (thenA_normal (⟨rfl, List.drop (Int.toNat (1 : Int)) f0, out8, IntKind.i64.wrap (a9 + ((List.getD f0 (Int.toNat (0 : Int)) default).Net)), lo14, .eq (by kernel_rfl), hO, h1⟩))
              · replace h1 := condF hc30 h1
                refine A_cl (C_skip (by kernel_rfl) ?_)
                refine E_has (l := [(0, (eL e_api_Jump f0)), (1, (eL e_api_Jump g1)), (2, (.fn (.func by2_f) by2_a by2_c)), (8, (.msl 2 lo14 0 (List.length out8))), (9, (eInt .i64 a9)), (10, (eInt .i64 b10)), (11, (eInt .i64 was11)), (12, (eInt .i64 at12))]) (.eq (by kernel_rfl)) ?_
                exact E_done (thenA_normal (⟨rfl, f0, out8, a9, lo14, .eq (by kernel_rfl), hO, h1⟩))
          · refine C_seq (by kernel_rfl) ?_
            refine A_cl (C_region ttOk (n := 3) (by kernel_rfl) (by kernel_rfl) ?_)
            refine R_all (Ds := []) (by kernel_rfl) trivial ?_
            refine E_has (l := [(0, (eL e_api_Jump f0)), (1, (eL e_api_Jump g1)), (2, (.fn (.func by2_f) by2_a by2_c)), (8, (.msl 2 lo13 0 (List.length out8))), (9, (eInt .i64 a9)), (10, (eInt .i64 b10)), (11, (eInt .i64 was11)), (12, (eInt .i64 at12)), (40, (eBool (decide ((0 : Int) < ((List.length g1 : Nat) : Int)))))]) (.eq (by kernel_rfl)) ?_
            refine E_done (thenA_normal (?_))
            refine C_cond (b := decide ((0 : Int) < ((List.length g1 : Nat) : Int))) (by kernel_rfl) (by kernel_rfl) (fun hc32 => ?_) (fun hc32 => ?_)
            · replace h1 := condT hc32 h1
              refine A_cl (C_region ttOk (n := 7) (by kernel_rfl) (by kernel_rfl) ?_)
              obtain ⟨c31, h1⟩ := asrtE h1
              refine R_all (Ds := [0 ≤ (0 : Int) ∧ (0 : Int) < ((List.length g1 : Nat) : Int)]) (by kernel_rfl) ⟨c31, trivial⟩ ?_
              refine E_has (l := [(0, (eL e_api_Jump f0)), (1, (eL e_api_Jump g1)), (2, (.fn (.func by2_f) by2_a by2_c)), (8, (.msl 2 lo13 0 (List.length out8))), (9, (eInt .i64 a9)), (10, (eInt .i64 b10)), (11, (eInt .i64 was11)), (12, (eInt .i64 (if ((List.getD g1 (Int.toNat (0 : Int)) default).At) < at12 then ((List.getD g1 (Int.toNat (0 : Int)) default).At) else at12)))]) (.eq (by kernel_rfl)) ?_
              exact E_done (thenA_normal (⟨rfl, out8, if ((List.getD g1 (Int.toNat (0 : Int)) default).At) < at12 then ((List.getD g1 (Int.toNat (0 : Int)) default).At) else at12, lo13, .eq (by kernel_rfl), hO, h1⟩))
            · replace h1 := condF hc32 h1
              refine A_cl (C_skip (by kernel_rfl) ?_)
              refine E_has (l := [(0, (eL e_api_Jump f0)), (1, (eL e_api_Jump g1)), (2, (.fn (.func by2_f) by2_a by2_c)), (8, (.msl 2 lo13 0 (List.length out8))), (9, (eInt .i64 a9)), (10, (eInt .i64 b10)), (11, (eInt .i64 was11)), (12, (eInt .i64 at12))]) (.eq (by kernel_rfl)) ?_
              exact E_done (thenA_normal (⟨rfl, out8, at12, lo13, .eq (by kernel_rfl), hO, h1⟩))
        · refine C_seq (by kernel_rfl) ?_
          refine A_cl (C_region ttOk (n := 3) (by kernel_rfl) (by kernel_rfl) ?_)
          refine R_all (Ds := []) (by kernel_rfl) trivial ?_
          refine E_has (l := [(0, (eL e_api_Jump f0)), (1, (eL e_api_Jump g1)), (2, (.fn (.func by2_f) by2_a by2_c)), (8, (.msl 2 lo12 0 (List.length out8))), (9, (eInt .i64 a9)), (10, (eInt .i64 b10)), (11, (eInt .i64 was11)), (12, (eInt .i64 (1125899906842624 : Int))), (33, (eBool (decide ((0 : Int) < ((List.length f0 : Nat) : Int)))))]) (.eq (by kernel_rfl)) ?_
          refine E_done (thenA_normal (?_))
          refine C_cond (b := decide ((0 : Int) < ((List.length f0 : Nat) : Int))) (by kernel_rfl) (by kernel_rfl) (fun hc34 => ?_) (fun hc34 => ?_)
          · replace h1 := condT hc34 h1
            refine A_cl (C_region ttOk (n := 5) (by kernel_rfl) (by kernel_rfl) ?_)
            obtain ⟨c33, h1⟩ := asrtE h1
            refine R_all (Ds := [0 ≤ (0 : Int) ∧ (0 : Int) < ((List.length f0 : Nat) : Int)]) (by kernel_rfl) ⟨c33, trivial⟩ ?_
            refine E_has (l := [(0, (eL e_api_Jump f0)), (1, (eL e_api_Jump g1)), (2, (.fn (.func by2_f) by2_a by2_c)), (8, (.msl 2 lo12 0 (List.length out8))), (9, (eInt .i64 a9)), (10, (eInt .i64 b10)), (11, (eInt .i64 was11)), (12, (eInt .i64 ((List.getD f0 (Int.toNat (0 : Int)) default).At)))]) (.eq (by kernel_rfl)) ?_
            exact E_done (thenA_normal (⟨rfl, out8, (List.getD f0 (Int.toNat (0 : Int)) default).At, lo12, .eq (by kernel_rfl), hO, h1⟩))
          · replace h1 := condF hc34 h1
            refine A_cl (C_skip (by kernel_rfl) ?_)
            refine E_has (l := [(0, (eL e_api_Jump f0)), (1, (eL e_api_Jump g1)), (2, (.fn (.func by2_f) by2_a by2_c)), (8, (.msl 2 lo12 0 (List.length out8))), (9, (eInt .i64 a9)), (10, (eInt .i64 b10)), (11, (eInt .i64 was11)), (12, (eInt .i64 (1125899906842624 : Int)))]) (.eq (by kernel_rfl)) ?_
            exact E_done (thenA_normal (⟨rfl, out8, (1125899906842624 : Int), lo12, .eq (by kernel_rfl), hO, h1⟩))
      · replace h1 := condF hc35 h1
        refine A_cl (C_exit (id := 0) (by kernel_rfl) (by kernel_rfl) ?_)
        refine E_has (l := [(8, (.msl 2 lo12 0 (List.length out8)))]) (.eq (by kernel_rfl)) ?_
        obtain rfl := Option.some.inj h1
        obtain rfl : _ = rr0 := ho0
        replace h0 : step_both_j1 by2 out8 = some r := h0
        exact E_done (thenA_exit (thenA_exit (blockA_hit (thenA_normal (⟨rfl, out8, lo12, .eq (by kernel_rfl), hO, h0⟩)))))

theorem w_step_Mul_1 (a0 : Int) (b1 : Int) (r : Int) (h0 : s_step_Mul_1 a0 b1 = some r) : Fine Try.prog 45 [(eInt .i64 a0), (eInt .i64 b1)] (eInt .i64 r) := by
  intro H0
  refine F_walk Try.func45 (by kernel_rfl) (by kernel_rfl) (by kernel_rfl) ?_
  have hO := Owns.start H0
  unfold s_step_Mul_1 at h0
  refine C_seq (by kernel_rfl) ?_
  refine A_cl (C_region ttOk (n := 1) (by kernel_rfl) (by kernel_rfl) ?_)
  refine R_all (Ds := []) (by kernel_rfl) trivial ?_
  refine E_has (l := [(0, (eInt .i64 a0)), (1, (eInt .i64 b1))]) (.eq (by kernel_rfl)) ?_
  refine E_done (thenA_normal (?_))
  refine C_seq (by kernel_rfl) ?_
  refine A_cl (C_region ttOk (n := 4) (by kernel_rfl) (by kernel_rfl) ?_)
  refine R_all (Ds := []) (by kernel_rfl) trivial ?_
  refine E_has (l := [(4, (eInt .i64 (IntKind.i64.wrap (a0 * b1))))]) (.eq (by kernel_rfl)) ?_
  refine E_done (thenA_normal (?_))
  refine A_cl (C_ret (by kernel_rfl) ?_)
  refine E_has (l := [(4, (eInt .i64 (IntKind.i64.wrap (a0 * b1))))]) (.eq (by kernel_rfl)) ?_
  obtain rfl := Option.some.inj h0
  exact E_done (Q_ret (x := (eInt .i64 (IntKind.i64.wrap (a0 * b1)))) (by kernel_rfl) (SubV.refl _) ⟨rfl, hO.out⟩)

theorem w_step_Mul (f0 : (List api_Jump)) (g1 : (List api_Jump)) (r : ((List api_Jump) × Int)) (h0 : s_step_Mul f0 g1 = some r) : Fine Try.prog 18 [(eL e_api_Jump f0), (eL e_api_Jump g1)] (.tup [(eL e_api_Jump r.1), (eInt .i64 r.2)]) := by
  intro H0
  refine F_walk Try.func18 (by kernel_rfl) (by kernel_rfl) (by kernel_rfl) ?_
  have hO := Owns.start H0
  unfold s_step_Mul at h0
  refine C_seq (by kernel_rfl) ?_
  refine A_cl (C_region ttOk (n := 2) (by kernel_rfl) (by kernel_rfl) ?_)
  refine R_all (Ds := []) (by kernel_rfl) trivial ?_
  refine E_has (l := [(0, (eL e_api_Jump f0)), (1, (eL e_api_Jump g1))]) (.eq (by kernel_rfl)) ?_
  refine E_done (thenA_normal (?_))
  refine C_seq (by kernel_rfl) ?_
  refine A_cl (C_region ttOk (n := 7) (by kernel_rfl) (by kernel_rfl) ?_)
  refine R_pure 2 (by kernel_rfl) (Ds := []) (by kernel_rfl) trivial ?_
  obtain ⟨x1, hx2, h0⟩ := bindE h0
  refine R_callO [] 43 [(eL e_api_Jump f0), (eL e_api_Jump g1), (.fn (.func 45) [] [])] (.tup [(eL e_api_Jump x1.1), (eInt .i64 x1.2)]) true (by kernel_rfl) (by kernel_rfl) (by kernel_rfl) (fun hb3 => (w_step_both f0 g1 45 [] [] (fun y0 y1 => s_step_Mul_1 y0 y1) (fun y0 y1 r h => w_step_Mul_1 y0 y1 r h) _ hx2)) hO ?_
  intro H hO
  refine R_all (Ds := []) (by kernel_rfl) trivial ?_
  refine E_has (l := [(4, (eL e_api_Jump x1.1)), (5, (eInt .i64 x1.2))]) (.eq (by kernel_rfl)) ?_
  refine E_done (thenA_normal (?_))
  refine A_cl (C_ret (by kernel_rfl) ?_)
  refine E_has (l := [(4, (eL e_api_Jump x1.1)), (5, (eInt .i64 x1.2))]) (.eq (by kernel_rfl)) ?_
  obtain rfl := Option.some.inj h0
  exact E_done (Q_ret (x := (.tup [(eL e_api_Jump x1.1), (eInt .i64 x1.2)])) (by kernel_rfl) (SubV.refl _) ⟨rfl, hO.out⟩)

theorem w_ref09_Same (f0 : (List api_Jump)) (g1 : (List api_Jump)) (r : Bool) (h0 : s_ref09_Same f0 g1 = some r) : Fine Try.prog 14 [(eL e_api_Jump f0), (eL e_api_Jump g1)] (eBool r) := by
  intro H0
  refine F_walk Try.func14 (by kernel_rfl) (by kernel_rfl) (by kernel_rfl) ?_
  have hO := Owns.start H0
  unfold s_ref09_Same at h0
  refine C_seq (by kernel_rfl) ?_
  refine A_cl (C_region ttOk (n := 1) (by kernel_rfl) (by kernel_rfl) ?_)
  refine R_all (Ds := []) (by kernel_rfl) trivial ?_
  refine E_has (l := [(0, (eL e_api_Jump f0)), (1, (eL e_api_Jump g1))]) (.eq (by kernel_rfl)) ?_
  refine E_done (thenA_normal (?_))
  refine C_seq (by kernel_rfl) ?_
  refine C_seq (by kernel_rfl) ?_
  refine A_cl (C_region ttOk (n := 5) (by kernel_rfl) (by kernel_rfl) ?_)
  refine R_all (Ds := []) (by kernel_rfl) trivial ?_
  refine E_has (l := [(0, (eL e_api_Jump f0)), (1, (eL e_api_Jump g1)), (10, (eBool (!decide (((List.length f0 : Nat) : Int) = ((List.length g1 : Nat) : Int)))))]) (.eq (by kernel_rfl)) ?_
  refine E_done (thenA_normal (?_))
  refine C_cond (b := !decide (((List.length f0 : Nat) : Int) = ((List.length g1 : Nat) : Int))) (by kernel_rfl) (by kernel_rfl) (fun hc5 => ?_) (fun hc5 => ?_)
  · replace h0 := condT hc5 h0
    refine C_seq (by kernel_rfl) ?_
    refine A_cl (C_region ttOk (n := 1) (by kernel_rfl) (by kernel_rfl) ?_)
    refine R_all (Ds := []) (by kernel_rfl) trivial ?_
    refine E_has (l := [(4, (eBool false))]) (.eq (by kernel_rfl)) ?_
    refine E_done (thenA_normal (?_))
    refine A_cl (C_ret (by kernel_rfl) ?_)
    refine E_has (l := [(4, (eBool false))]) (.eq (by kernel_rfl)) ?_
    obtain rfl := Option.some.inj h0
    exact E_done (thenA_ret (Q_ret (x := (eBool false)) (by kernel_rfl) (SubV.refl _) ⟨rfl, hO.out⟩))
  · replace h0 := condF hc5 h0
    refine A_cl (C_skip (by kernel_rfl) ?_)
    refine E_has (l := [(0, (eL e_api_Jump f0)), (1, (eL e_api_Jump g1))]) (.eq (by kernel_rfl)) ?_
    refine E_done (thenA_normal (?_))
    refine C_seqJ (by kernel_rfl) (fun T H => Has T [] ∧ Owns ⟨H0, []⟩ H [] ∧ ref09_Same_j1  = some r) ?_ ?_
    · clear hO h0
      rintro T H ⟨hT, hO, h0⟩
      refine C_has hT ?_
      clear hT
      unfold ref09_Same_j1 at h0
      refine C_seq (by kernel_rfl) ?_
      refine A_cl (C_region ttOk (n := 1) (by kernel_rfl) (by kernel_rfl) ?_)
      refine R_all (Ds := []) (by kernel_rfl) trivial ?_
      refine E_has (l := [(4, (eBool true))]) (.eq (by kernel_rfl)) ?_
      refine E_done (thenA_normal (?_))
      refine A_cl (C_ret (by kernel_rfl) ?_)
      refine E_has (l := [(4, (eBool true))]) (.eq (by kernel_rfl)) ?_
      obtain rfl := Option.some.inj h0
      exact E_done (Q_ret (x := (eBool true)) (by kernel_rfl) (SubV.refl _) ⟨rfl, hO.out⟩)
    · refine C_seq (by kernel_rfl) ?_
      refine A_cl (C_region ttOk (n := 1) (by kernel_rfl) (by kernel_rfl) ?_)
      refine R_all (Ds := []) (by kernel_rfl) trivial ?_
      refine E_has (l := [(0, (eL e_api_Jump f0)), (1, (eL e_api_Jump g1)), (5, (eInt .i64 (0 : Int)))]) (.eq (by kernel_rfl)) ?_
      refine E_done (thenA_normal (?_))
      refine C_block (id := 0) (by kernel_rfl) (by kernel_rfl) ?_
      refine C_has (l := [(0, (eL e_api_Jump f0)), (1, (eL e_api_Jump g1)), (5, (eInt .i64 (0 : Int)))]) (.eq (by kernel_rfl)) ?_
      refine C_cut (fun T H => ∃ i5 : Int, Has T [(0, (eL e_api_Jump f0)), (1, (eL e_api_Jump g1)), (5, (eInt .i64 i5))] ∧ Owns ⟨H0, []⟩ H [] ∧ ref09_Same_h2 f0 g1 i5 = some r) ?_ ⟨(0 : Int), .eq (by kernel_rfl), hO, h0⟩
      clear hO h0
      rintro T H ⟨i5, hT, hO, h0⟩
      refine C_has hT ?_
      clear hT
      unfold ref09_Same_h2 at h0
      obtain ⟨rr0, hl0, h0⟩ := bindE h0
      refine C_loopS (by kernel_rfl) (fun (s : Int) T H => Has T [(0, (eL e_api_Jump f0)), (1, (eL e_api_Jump g1)), (5, (eInt .i64 s))] ∧ Owns ⟨H0, []⟩ H []) hl0 ⟨.eq (by kernel_rfl), hO⟩ ?_
      clear hO
      rintro k0 s out1 T H ⟨hT, hO⟩ h1 ho0
      obtain ⟨i5, rfl⟩ : ∃ x, x = s := ⟨_, rfl⟩
      replace h1 : ref09_Same_l2 f0 g1 i5 = some out1 := h1
      refine C_has (l := [(0, (eL e_api_Jump f0)), (1, (eL e_api_Jump g1)), (5, (eInt .i64 i5))]) hT ?_
      clear hT
      unfold ref09_Same_l2 at h1
      refine C_seq (by kernel_rfl) ?_
      refine C_seq (by kernel_rfl) ?_
      refine A_cl (C_region ttOk (n := 4) (by kernel_rfl) (by kernel_rfl) ?_)
      refine R_all (Ds := []) (by kernel_rfl) trivial ?_
      refine E_has (l := [(0, (eL e_api_Jump f0)), (1, (eL e_api_Jump g1)), (5, (eInt .i64 i5)), (14, (eBool (decide (i5 < ((List.length f0 : Nat) : Int)))))]) (.eq (by kernel_rfl)) ?_
      refine E_done (thenA_normal (?_))
      refine C_cond (b := decide (i5 < ((List.length f0 : Nat) : Int))) (by kernel_rfl) (by kernel_rfl) (fun hc4 => ?_) (fun hc4 => ?_)
      · replace h1 := condT hc4 h1
        refine A_cl (C_skip (by kernel_rfl) ?_)
        refine E_has (l := [(0, (eL e_api_Jump f0)), (1, (eL e_api_Jump g1)), (5, (eInt .i64 i5))]) (.eq (by kernel_rfl)) ?_
        refine E_done (thenA_normal (?_))
        refine C_seq (by kernel_rfl) ?_
        refine C_block (id := 1) (by kernel_rfl) (by kernel_rfl) ?_
        refine C_seq (by kernel_rfl) ?_
        refine A_cl (C_draw ttOk (by kernel_rfl) (n := 9) (by kernel_rfl) (by kernel_rfl) (by kernel_rfl) ?_)
        obtain ⟨c1, h1⟩ := asrtE h1
        obtain ⟨c2, h1⟩ := asrtE h1
        refine D_all (Ds := [0 ≤ i5 ∧ i5 < ((List.length f0 : Nat) : Int), 0 ≤ i5 ∧ i5 < ((List.length g1 : Nat) : Int)]) (by kernel_rfl) ⟨c1, c2, trivial⟩ ?_
        refine E_has (l := [(0, (eL e_api_Jump f0)), (1, (eL e_api_Jump g1)), (5, (eInt .i64 i5)), (25, (eBool (!((decide (((List.getD f0 (Int.toNat i5) default).At) = ((List.getD g1 (Int.toNat i5) default).At))) && ((decide (((List.getD f0 (Int.toNat i5) default).Net) = ((List.getD g1 (Int.toNat i5) default).Net))) && true)))))]) (.eq (by kernel_rfl)) ?_
        refine E_done (thenA_normal (?_))
        refine C_cond (b := !((decide (((List.getD f0 (Int.toNat i5) default).At) = ((List.getD g1 (Int.toNat i5) default).At))) && ((decide (((List.getD f0 (Int.toNat i5) default).Net) = ((List.getD g1 (Int.toNat i5) default).Net))) && true))) (by kernel_rfl) (by kernel_rfl) (fun hc3 => ?_) (fun hc3 => ?_)
        · replace h1 := condT hc3 h1
          refine C_seq (by kernel_rfl) ?_
          refine A_cl (C_region ttOk (n := 1) (by kernel_rfl) (by kernel_rfl) ?_)
          refine R_all (Ds := []) (by kernel_rfl) trivial ?_
          refine E_has (l := [(4, (eBool false))]) (.eq (by kernel_rfl)) ?_
          refine E_done (thenA_normal (?_))
          refine A_cl (C_ret (by kernel_rfl) ?_)
          refine E_has (l := [(4, (eBool false))]) (.eq (by kernel_rfl)) ?_
          obtain rfl := Option.some.inj h1
          obtain rfl : _ = rr0 := ho0
          replace h0 : some false = some r := h0
          obtain rfl := Option.some.inj h0
          exact E_done (blockA_ret (thenA_ret (thenA_ret (blockA_ret (thenA_ret (Q_ret (x := (eBool false)) (by kernel_rfl) (SubV.refl _) ⟨rfl, hO.out⟩))))))
        · replace h1 := condF hc3 h1
          refine A_cl (C_skip (by kernel_rfl) ?_)
          refine E_has (l := [(0, (eL e_api_Jump f0)), (1, (eL e_api_Jump g1)), (5, (eInt .i64 i5))]) (.eq (by kernel_rfl)) ?_
          refine E_done (blockA_normal (thenA_normal (?_)))
          refine A_cl (C_region ttOk (n := 3) (by kernel_rfl) (by kernel_rfl) ?_)
          refine R_all (Ds := []) (by kernel_rfl) trivial ?_
          refine E_has (l := [(0, (eL e_api_Jump f0)), (1, (eL e_api_Jump g1)), (5, (eInt .i64 (IntKind.i64.wrap (i5 + (1 : Int)))))]) (.eq (by kernel_rfl)) ?_
          exact E_done (thenA_normal (⟨rfl, IntKind.i64.wrap (i5 + (1 : Int)), (Option.some.inj h1).symm, .eq (by kernel_rfl), hO⟩))
      · replace h1 := condF hc4 h1
        refine A_cl (C_exit (id := 0) (by kernel_rfl) (by kernel_rfl) ?_)
        refine E_has (l := []) (.eq (by kernel_rfl)) ?_
        obtain rfl := Option.some.inj h1
        obtain rfl : _ = rr0 := ho0
        replace h0 : ref09_Same_j1  = some r := h0
        exact E_done (thenA_exit (thenA_exit (blockA_hit (thenA_normal (⟨rfl, .eq (by kernel_rfl), hO, h0⟩)))))

theorem w_step_At (f0 : (List api_Jump)) (t1 : Int) (r : Int) (h0 : s_step_At f0 t1 = some r) : Fine Try.prog 19 [(eL e_api_Jump f0), (eInt .i64 t1)] (eInt .i64 r) := by
  intro H0
  refine F_walk Try.func19 (by kernel_rfl) (by kernel_rfl) (by kernel_rfl) ?_
  have hO := Owns.start H0
  unfold s_step_At at h0
  refine C_seq (by kernel_rfl) ?_
  refine A_cl (C_region ttOk (n := 1) (by kernel_rfl) (by kernel_rfl) ?_)
  refine R_all (Ds := []) (by kernel_rfl) trivial ?_
  refine E_has (l := [(0, (eL e_api_Jump f0)), (1, (eInt .i64 t1))]) (.eq (by kernel_rfl)) ?_
  refine E_done (thenA_normal (?_))
  refine C_seq (by kernel_rfl) ?_
  refine C_seq (by kernel_rfl) ?_
  refine A_cl (C_region ttOk (n := 3) (by kernel_rfl) (by kernel_rfl) ?_)
  refine R_pure 1 (by kernel_rfl) (Ds := []) (by kernel_rfl) trivial ?_
  obtain ⟨x1, hx2, h0⟩ := bindE h0
  refine R_callO [] 15 [(eL e_api_Jump f0)] (eBool x1) true (by kernel_rfl) (by kernel_rfl) (by kernel_rfl) (fun hb3 => (w_step_May f0 _ hx2)) hO ?_
  intro H hO
  refine R_all (Ds := []) (by kernel_rfl) trivial ?_
  refine E_has (l := [(0, (eL e_api_Jump f0)), (1, (eInt .i64 t1)), (10, (eBool (!x1)))]) (.eq (by kernel_rfl)) ?_
  refine E_done (thenA_normal (?_))
  refine C_cond (b := !x1) (by kernel_rfl) (by kernel_rfl) (fun hc8 => ?_) (fun hc8 => ?_)
  · replace h0 := condT hc8 h0
    refine C_seq (by kernel_rfl) ?_
    refine A_cl (C_region ttOk (n := 1) (by kernel_rfl) (by kernel_rfl) ?_)
    refine R_all (Ds := []) (by kernel_rfl) trivial ?_
    refine E_has (l := [(4, (eInt .i64 (0 : Int)))]) (.eq (by kernel_rfl)) ?_
    refine E_done (thenA_normal (?_))
    refine A_cl (C_ret (by kernel_rfl) ?_)
    refine E_has (l := [(4, (eInt .i64 (0 : Int)))]) (.eq (by kernel_rfl)) ?_
    obtain rfl := Option.some.inj h0
    exact E_done (thenA_ret (Q_ret (x := (eInt .i64 (0 : Int))) (by kernel_rfl) (SubV.refl _) ⟨rfl, hO.out⟩))
  · replace h0 := condF hc8 h0
    refine A_cl (C_skip (by kernel_rfl) ?_)
    refine E_has (l := [(0, (eL e_api_Jump f0)), (1, (eInt .i64 t1))]) (.eq (by kernel_rfl)) ?_
    refine E_done (thenA_normal (?_))
    refine C_seq (by kernel_rfl) ?_
    refine A_cl (C_region ttOk (n := 1) (by kernel_rfl) (by kernel_rfl) ?_)
    refine R_all (Ds := []) (by kernel_rfl) trivial ?_
    refine E_has (l := [(0, (eL e_api_Jump f0)), (1, (eInt .i64 t1)), (5, (eInt .i64 (0 : Int)))]) (.eq (by kernel_rfl)) ?_
    refine E_done (thenA_normal (?_))
    refine C_seqJ (by kernel_rfl) (fun T H => ∃ v5 : Int, Has T [(5, (eInt .i64 v5))] ∧ Owns ⟨H0, []⟩ H [] ∧ step_At_j1 v5 = some r) ?_ ?_
    · clear hO h0
      rintro T H ⟨v5, hT, hO, h0⟩
      refine C_has hT ?_
      clear hT
      unfold step_At_j1 at h0
      refine C_seq (by kernel_rfl) ?_
      refine A_cl (C_region ttOk (n := 2) (by kernel_rfl) (by kernel_rfl) ?_)
      refine R_all (Ds := []) (by kernel_rfl) trivial ?_
      refine E_has (l := [(4, (eInt .i64 v5))]) (.eq (by kernel_rfl)) ?_
      refine E_done (thenA_normal (?_))
      refine A_cl (C_ret (by kernel_rfl) ?_)
      refine E_has (l := [(4, (eInt .i64 v5))]) (.eq (by kernel_rfl)) ?_
      obtain rfl := Option.some.inj h0
      exact E_done (Q_ret (x := (eInt .i64 v5)) (by kernel_rfl) (SubV.refl _) ⟨rfl, hO.out⟩)
    · refine C_seq (by kernel_rfl) ?_
      refine A_cl (C_region ttOk (n := 3) (by kernel_rfl) (by kernel_rfl) ?_)
      refine R_all (Ds := []) (by kernel_rfl) trivial ?_
      refine E_has (l := [(1, (eInt .i64 t1)), (5, (eInt .i64 (0 : Int))), (11, (eL e_api_Jump f0)), (12, (eInt .i64 ((List.length f0 : Nat) : Int))), (13, (eInt .i64 (0 : Int)))]) (.eq (by kernel_rfl)) ?_
      refine E_done (thenA_normal (?_))
      refine C_block (id := 0) (by kernel_rfl) (by kernel_rfl) ?_
      refine C_has (l := [(1, (eInt .i64 t1)), (5, (eInt .i64 (0 : Int))), (11, (eL e_api_Jump f0)), (12, (eInt .i64 ((List.length f0 : Nat) : Int))), (13, (eInt .i64 (0 : Int)))]) (.eq (by kernel_rfl)) ?_
      refine C_cut (fun T H => ∃ v5 : Int, ∃ t11 : (List api_Jump), ∃ t12 : Int, ∃ t13 : Int, Has T [(1, (eInt .i64 t1)), (5, (eInt .i64 v5)), (11, (eL e_api_Jump t11)), (12, (eInt .i64 t12)), (13, (eInt .i64 t13))] ∧ Owns ⟨H0, []⟩ H [] ∧ step_At_h2 t1 v5 t11 t12 t13 = some r) ?_ ⟨(0 : Int), f0, ((List.length f0 : Nat) : Int), (0 : Int), .eq (by kernel_rfl), hO, h0⟩
      clear hO h0
      rintro T H ⟨v5, t11, t12, t13, hT, hO, h0⟩
      refine C_has hT ?_
      clear hT
      unfold step_At_h2 at h0
      obtain ⟨rr0, hl0, h0⟩ := bindE h0
      refine C_loopS (by kernel_rfl) (fun (s : Int × Int) T H => Has T [(1, (eInt .i64 t1)), (5, (eInt .i64 s.1)), (11, (eL e_api_Jump t11)), (12, (eInt .i64 t12)), (13, (eInt .i64 s.2))] ∧ Owns ⟨H0, []⟩ H []) hl0 ⟨.eq (by kernel_rfl), hO⟩ ?_
      clear hO
      rintro k0 s out1 T H ⟨hT, hO⟩ h1 ho0
      obtain ⟨v5, t13⟩ := s
      replace h1 : step_At_l2 t1 t11 t12 v5 t13 = some out1 := h1
      refine C_has (l := [(1, (eInt .i64 t1)), (5, (eInt .i64 v5)), (11, (eL e_api_Jump t11)), (12, (eInt .i64 t12)), (13, (eInt .i64 t13))]) hT ?_
      clear hT
      unfold step_At_l2 at h1
      refine C_seq (by kernel_rfl) ?_
      refine A_cl (C_region ttOk (n := 1) (by kernel_rfl) (by kernel_rfl) ?_)
      refine R_all (Ds := []) (by kernel_rfl) trivial ?_
      refine E_has (l := [(1, (eInt .i64 t1)), (5, (eInt .i64 v5)), (11, (eL e_api_Jump t11)), (12, (eInt .i64 t12)), (13, (eInt .i64 t13)), (14, (eBool (decide (t13 < t12))))]) (.eq (by kernel_rfl)) ?_
      refine E_done (thenA_normal (?_))
      refine C_seq (by kernel_rfl) ?_
      refine C_cond (b := decide (t13 < t12)) (by kernel_rfl) (by kernel_rfl) (fun hc7 => ?_) (fun hc7 => ?_)
      · replace h1 := condT hc7 h1
        refine A_cl (C_skip (by kernel_rfl) ?_)
        refine E_has (l := [(1, (eInt .i64 t1)), (5, (eInt .i64 v5)), (11, (eL e_api_Jump t11)), (12, (eInt .i64 t12)), (13, (eInt .i64 t13))]) (.eq (by kernel_rfl)) ?_
        refine E_done (thenA_normal (?_))
        refine C_seq (by kernel_rfl) ?_
        refine C_block (id := 1) (by kernel_rfl) (by kernel_rfl) ?_
        refine C_seq (by kernel_rfl) ?_
        refine A_cl (C_region ttOk (n := 4) (by kernel_rfl) (by kernel_rfl) ?_)
        obtain ⟨c4, h1⟩ := asrtE h1
        refine R_pure 2 (by kernel_rfl) (Ds := [0 ≤ t13 ∧ t13 < ((List.length t11 : Nat) : Int)]) (by kernel_rfl) ⟨c4, trivial⟩ ?_
        refine R_allocO 2 (e_api_Jump (api_Jump.mk 0 0)) (by kernel_rfl) (by kernel_rfl) hO ?_
        intro lo5 H hO
        refine R_storeOL 0 lo5 2 0 (e_api_Jump (api_Jump.mk 0 0)) (e_api_Jump (List.getD t11 (Int.toNat t13) default)) [(e_api_Jump (api_Jump.mk 0 0))] [(lo5, 2, [(e_api_Jump (List.getD t11 (Int.toNat t13) default))])] (by kernel_rfl) (by kernel_rfl) (by kernel_rfl) hO (by kernel_rfl) rfl (by kernel_rfl) ?_
        intro H hO
        refine R_end (by kernel_rfl) ?_
        refine E_has (l := [(1, (eInt .i64 t1)), (5, (eInt .i64 v5)), (7, (.lp lo5 0 0)), (11, (eL e_api_Jump t11)), (12, (eInt .i64 t12)), (13, (eInt .i64 t13))]) (.eq (by kernel_rfl)) ?_
        refine E_done (thenA_normal (?_))
        refine C_seq (by kernel_rfl) ?_
        refine C_seq (by kernel_rfl) ?_
        refine A_cl (C_region ttOk (n := 4) (by kernel_rfl) (by kernel_rfl) ?_)
        refine R_pure 1 (by kernel_rfl) (Ds := []) (by kernel_rfl) trivial ?_
        refine R_loadO [] 0 lo5 2 0 (e_api_Jump (List.getD t11 (Int.toNat t13) default)) (eInt .i64 ((List.getD t11 (Int.toNat t13) default).At)) [(e_api_Jump (List.getD t11 (Int.toNat t13) default))] (by kernel_rfl) (by kernel_rfl) hO (by kernel_rfl) true (by kernel_rfl) (fun _ => rfl) ?_
        refine R_all (Ds := []) (by kernel_rfl) trivial ?_
        refine E_has (l := [(1, (eInt .i64 t1)), (5, (eInt .i64 v5)), (7, (.lp lo5 0 0)), (11, (eL e_api_Jump t11)), (12, (eInt .i64 t12)), (13, (eInt .i64 t13)), (20, (eBool (decide (t1 < ((List.getD t11 (Int.toNat t13) default).At)))))]) (.eq (by kernel_rfl)) ?_
        refine E_done (thenA_normal (?_))
        refine C_cond (b := decide (t1 < ((List.getD t11 (Int.toNat t13) default).At))) (by kernel_rfl) (by kernel_rfl) (fun hc6 => ?_) (fun hc6 => ?_)
        · replace h1 := condT hc6 h1
          refine A_cl (C_exit (id := 0) (by kernel_rfl) (by kernel_rfl) ?_)
          refine E_has (l := [(5, (eInt .i64 v5))]) (.eq (by kernel_rfl)) ?_
          replace hO := hO.pick (L' := []) [] (by decide) (by kernel_rfl)
          obtain rfl := Option.some.inj h1
          obtain rfl : _ = rr0 := ho0
          replace h0 : step_At_j1 v5 = some r := h0
          exact E_done (thenA_exit (blockA_miss (by kernel_rfl) (thenA_exit (thenA_exit (blockA_hit (thenA_normal (⟨rfl, v5, .eq (by kernel_rfl), hO, h0⟩)))))))
        · replace h1 := condF hc6 h1
          refine A_cl (C_skip (by kernel_rfl) ?_)
          refine E_has (l := [(1, (eInt .i64 t1)), (5, (eInt .i64 v5)), (7, (.lp lo5 0 0)), (11, (eL e_api_Jump t11)), (12, (eInt .i64 t12)), (13, (eInt .i64 t13))]) (.eq (by kernel_rfl)) ?_
          refine E_done (thenA_normal (?_))
          refine A_cl (C_region ttOk (n := 5) (by kernel_rfl) (by kernel_rfl) ?_)
          refine R_pure 2 (by kernel_rfl) (Ds := []) (by kernel_rfl) trivial ?_
          refine R_loadO [] 0 lo5 2 0 (e_api_Jump (List.getD t11 (Int.toNat t13) default)) (eInt .i64 ((List.getD t11 (Int.toNat t13) default).Net)) [(e_api_Jump (List.getD t11 (Int.toNat t13) default))] (by kernel_rfl) (by kernel_rfl) hO (by kernel_rfl) true (by kernel_rfl) (fun _ => rfl) ?_
          refine R_all (Ds := []) (by kernel_rfl) trivial ?_
          refine E_has (l := [(1, (eInt .i64 t1)), (5, (eInt .i64 (IntKind.i64.wrap (v5 + ((List.getD t11 (Int.toNat t13) default).Net))))), (11, (eL e_api_Jump t11)), (12, (eInt .i64 t12)), (13, (eInt .i64 t13))]) (.eq (by kernel_rfl)) ?_
          replace hO := hO.pick (L' := []) [] (by decide) (by kernel_rfl)
          refine E_done (blockA_normal (thenA_normal (?_)))
          refine A_cl (C_region ttOk (n := 2) (by kernel_rfl) (by kernel_rfl) ?_)
          refine R_all (Ds := []) (by kernel_rfl) trivial ?_
          refine E_has (l := [(1, (eInt .i64 t1)), (5, (eInt .i64 (IntKind.i64.wrap (v5 + ((List.getD t11 (Int.toNat t13) default).Net))))), (11, (eL e_api_Jump t11)), (12, (eInt .i64 t12)), (13, (eInt .i64 (IntKind.i64.wrap (t13 + (1 : Int)))))]) (.eq (by kernel_rfl)) ?_
          exact E_done (thenA_normal (⟨rfl, (IntKind.i64.wrap (v5 + ((List.getD t11 (Int.toNat t13) default).Net)), IntKind.i64.wrap (t13 + (1 : Int))), (Option.some.inj h1).symm, .eq (by kernel_rfl), hO⟩))
      · replace h1 := condF hc7 h1
        refine A_cl (C_exit (id := 0) (by kernel_rfl) (by kernel_rfl) ?_)
        refine E_has (l := [(5, (eInt .i64 v5))]) (.eq (by kernel_rfl)) ?_
        obtain rfl := Option.some.inj h1
        obtain rfl : _ = rr0 := ho0
        replace h0 : step_At_j1 v5 = some r := h0
        exact E_done (thenA_exit (thenA_exit (blockA_hit (thenA_normal (⟨rfl, v5, .eq (by kernel_rfl), hO, h0⟩)))))

theorem w_law09_live  (r : Bool) (h0 : s_law09_live  = some r) : Fine Try.prog 11 [] (eBool r) := by
  intro H0
  refine F_walk Try.func11 (by kernel_rfl) (by kernel_rfl) (by kernel_rfl) ?_
  have hO := Owns.start H0
  unfold s_law09_live at h0
  refine C_seq (by kernel_rfl) ?_
  refine A_cl (C_region ttOk (n := 1) (by kernel_rfl) (by kernel_rfl) ?_)
  refine R_all (Ds := []) (by kernel_rfl) trivial ?_
  refine E_has (l := []) (.eq (by kernel_rfl)) ?_
  refine E_done (thenA_normal (?_))
  refine C_seq (by kernel_rfl) ?_
  refine A_cl (C_region ttOk (n := 9) (by kernel_rfl) (by kernel_rfl) ?_)
  refine R_pure 2 (by kernel_rfl) (Ds := []) (by kernel_rfl) trivial ?_
  refine R_bsl (xs := [(e_api_Jump (api_Jump.mk (5 : Int) (-1 : Int))), (e_api_Jump (api_Jump.mk (2 : Int) (1 : Int)))]) (k := 2) (by kernel_rfl) (by kernel_rfl) ?_
  obtain ⟨x1, hx2, h0⟩ := bindE h0
  refine R_callO [] 12 [(frozenOf [(e_api_Jump (api_Jump.mk (5 : Int) (-1 : Int))), (e_api_Jump (api_Jump.mk (2 : Int) (1 : Int)))])] (.tup [(eL e_api_Jump x1.1), (eInt .i64 x1.2)]) true (by kernel_rfl) (by kernel_rfl) (by kernel_rfl) (fun hb3 => (Fine.sub (w_step_Norm ([api_Jump.mk (5 : Int) (-1 : Int), api_Jump.mk (2 : Int) (1 : Int)]) _ hx2) ⟨subLit (l := [api_Jump.mk (5 : Int) (-1 : Int), api_Jump.mk (2 : Int) (1 : Int)]), trivial⟩)) hO ?_
  intro H hO
  refine R_all (Ds := []) (by kernel_rfl) trivial ?_
  refine E_has (l := [(1, (eL e_api_Jump x1.1)), (2, (eInt .i64 x1.2))]) (.eq (by kernel_rfl)) ?_
  refine E_done (thenA_normal (?_))
  refine C_seq (by kernel_rfl) ?_
  refine A_cl (C_region ttOk (n := 10) (by kernel_rfl) (by kernel_rfl) ?_)
  refine R_pure 3 (by kernel_rfl) (Ds := []) (by kernel_rfl) trivial ?_
  refine R_bsl (xs := [(e_api_Jump (api_Jump.mk (3 : Int) (1 : Int))), (e_api_Jump (api_Jump.mk (9 : Int) (-1 : Int)))]) (k := 2) (by kernel_rfl) (by kernel_rfl) ?_
  obtain ⟨x4, hx5, h0⟩ := bindE h0
  refine R_callO [] 18 [(eL e_api_Jump x1.1), (frozenOf [(e_api_Jump (api_Jump.mk (3 : Int) (1 : Int))), (e_api_Jump (api_Jump.mk (9 : Int) (-1 : Int)))])] (.tup [(eL e_api_Jump x4.1), (eInt .i64 x4.2)]) true (by kernel_rfl) (by kernel_rfl) (by kernel_rfl) (fun hb6 => (Fine.sub (w_step_Mul x1.1 ([api_Jump.mk (3 : Int) (1 : Int), api_Jump.mk (9 : Int) (-1 : Int)]) _ hx5) ⟨SubV.refl _, subLit (l := [api_Jump.mk (3 : Int) (1 : Int), api_Jump.mk (9 : Int) (-1 : Int)]), trivial⟩)) hO ?_
  intro H hO
  refine R_all (Ds := []) (by kernel_rfl) trivial ?_
  refine E_has (l := [(1, (eL e_api_Jump x1.1)), (2, (eInt .i64 x1.2)), (3, (eL e_api_Jump x4.1)), (4, (eInt .i64 x4.2))]) (.eq (by kernel_rfl)) ?_
  refine E_done (thenA_normal (?_))
  refine C_seq (by kernel_rfl) ?_
  refine A_cl (C_region ttOk (n := 26) (by kernel_rfl) (by kernel_rfl) ?_)
  refine R_pure 10 (by kernel_rfl) (Ds := []) (by kernel_rfl) trivial ?_
  refine R_bslG [(26, true)] [(e_api_Jump (api_Jump.mk (2 : Int) (1 : Int))), (e_api_Jump (api_Jump.mk (5 : Int) (-1 : Int)))] (by kernel_rfl) (by kernel_rfl) ?_
  obtain ⟨x7, hx8, h0⟩ := bindE h0
  refine R_callO [(26, true)] 14 [(eL e_api_Jump x1.1), (frozenOf [(e_api_Jump (api_Jump.mk (2 : Int) (1 : Int))), (e_api_Jump (api_Jump.mk (5 : Int) (-1 : Int)))])] (eBool x7) ((decide (x1.2 = (0 : Int))) && (decide (x4.2 = (0 : Int)))) (by kernel_rfl) (by kernel_rfl) (by kernel_rfl) (fun hb9 => (Fine.sub (w_ref09_Same x1.1 ([api_Jump.mk (2 : Int) (1 : Int), api_Jump.mk (5 : Int) (-1 : Int)]) _ (gcallE hx8 hb9)) ⟨SubV.refl _, subLit (l := [api_Jump.mk (2 : Int) (1 : Int), api_Jump.mk (5 : Int) (-1 : Int)]), trivial⟩)) hO ?_
  intro H hO
  refine R_pure 17 (by kernel_rfl) (Ds := []) (by kernel_rfl) trivial ?_
  refine R_bslG [(33, true)] [(e_api_Jump (api_Jump.mk (3 : Int) (1 : Int))), (e_api_Jump (api_Jump.mk (5 : Int) (-1 : Int)))] (by kernel_rfl) (by kernel_rfl) ?_
  obtain ⟨x10, hx11, h0⟩ := bindE h0
  refine R_callO [(33, true)] 14 [(eL e_api_Jump x4.1), (frozenOf [(e_api_Jump (api_Jump.mk (3 : Int) (1 : Int))), (e_api_Jump (api_Jump.mk (5 : Int) (-1 : Int)))])] (eBool x10) (((decide (x1.2 = (0 : Int))) && (decide (x4.2 = (0 : Int)))) && x7) (by kernel_rfl) (by kernel_rfl) (by kernel_rfl) (fun hb12 => (Fine.sub (w_ref09_Same x4.1 ([api_Jump.mk (3 : Int) (1 : Int), api_Jump.mk (5 : Int) (-1 : Int)]) _ (gcallE hx11 hb12)) ⟨SubV.refl _, subLit (l := [api_Jump.mk (3 : Int) (1 : Int), api_Jump.mk (5 : Int) (-1 : Int)]), trivial⟩)) hO ?_
  intro H hO
  refine R_pure 22 (by kernel_rfl) (Ds := []) (by kernel_rfl) trivial ?_
  obtain ⟨x13, hx14, h0⟩ := bindE h0
  refine R_callO [(40, true)] 19 [(eL e_api_Jump x1.1), (eInt .i64 (4 : Int))] (eInt .i64 x13) ((((decide (x1.2 = (0 : Int))) && (decide (x4.2 = (0 : Int)))) && x7) && x10) (by kernel_rfl) (by kernel_rfl) (by kernel_rfl) (fun hb15 => (w_step_At x1.1 (4 : Int) _ (gcallE hx14 hb15))) hO ?_
  intro H hO
  refine R_all (Ds := []) (by kernel_rfl) trivial ?_
  refine E_has (l := [(0, (eBool (((((decide (x1.2 = (0 : Int))) && (decide (x4.2 = (0 : Int)))) && x7) && x10) && (decide (x13 = (1 : Int))))))]) (.eq (by kernel_rfl)) ?_
  refine E_done (thenA_normal (?_))
  refine A_cl (C_ret (by kernel_rfl) ?_)
  refine E_has (l := [(0, (eBool (((((decide (x1.2 = (0 : Int))) && (decide (x4.2 = (0 : Int)))) && x7) && x10) && (decide (x13 = (1 : Int))))))]) (.eq (by kernel_rfl)) ?_
  obtain rfl := Option.some.inj h0
  exact E_done (Q_ret (x := (eBool (((((decide (x1.2 = (0 : Int))) && (decide (x4.2 = (0 : Int)))) && x7) && x10) && (decide (x13 = (1 : Int)))))) (by kernel_rfl) (SubV.refl _) ⟨rfl, hO.out⟩)

theorem w_ref09_With (l0 : (List Int)) (t1 : Int) (r : (List Int)) (h0 : s_ref09_With l0 t1 = some r) : Fine Try.prog 40 [(eL (eInt .i64) l0), (eInt .i64 t1)] (eL (eInt .i64) r) := by
  intro H0
  refine F_walk Try.func40 (by kernel_rfl) (by kernel_rfl) (by kernel_rfl) ?_
  have hO := Owns.start H0
  unfold s_ref09_With at h0
  refine C_seq (by kernel_rfl) ?_
  refine A_cl (C_region ttOk (n := 1) (by kernel_rfl) (by kernel_rfl) ?_)
  refine R_all (Ds := []) (by kernel_rfl) trivial ?_
  refine E_has (l := [(0, (eL (eInt .i64) l0)), (1, (eInt .i64 t1))]) (.eq (by kernel_rfl)) ?_
  refine E_done (thenA_normal (?_))
  refine C_seq (by kernel_rfl) ?_
  refine A_cl (C_region ttOk (n := 2) (by kernel_rfl) (by kernel_rfl) ?_)
  refine R_bsl (xs := []) (k := 1) (by kernel_rfl) (by kernel_rfl) ?_
  refine R_all (Ds := []) (by kernel_rfl) trivial ?_
  refine E_has (l := [(0, (eL (eInt .i64) l0)), (1, (eInt .i64 t1)), (5, (.sl true 0 (fun _ => .bad)))]) (.eq (by kernel_rfl)) ?_
  refine E_done (thenA_normal (?_))
  refine C_seq (by kernel_rfl) ?_
  refine A_cl (C_region ttOk (n := 1) (by kernel_rfl) (by kernel_rfl) ?_)
  refine R_all (Ds := []) (by kernel_rfl) trivial ?_
  refine E_has (l := [(0, (eL (eInt .i64) l0)), (1, (eInt .i64 t1)), (5, (.sl true 0 (fun _ => .bad))), (6, (eBool false))]) (.eq (by kernel_rfl)) ?_
  refine E_done (thenA_normal (?_))
  refine C_seqJ (by kernel_rfl) (fun T H => ∃ out5 : List Int, ∃ put6 : Bool, ∃ lo1 : Nat, Has T [(1, (eInt .i64 t1)), (5, (.msl 1 lo1 0 (List.length out5))), (6, (eBool put6))] ∧ Owns ⟨H0, []⟩ H [(lo1, 1, List.map (eInt .i64) out5)] ∧ ref09_With_j1 t1 out5 put6 = some r) ?_ ?_
  · clear hO h0
    rintro T H ⟨out5, put6, lo1, hT, hO, h0⟩
    refine C_has hT ?_
    clear hT
    unfold ref09_With_j1 at h0
    refine C_seqJ (by kernel_rfl) (fun T H => ∃ out5 : List Int, ∃ lo2 : Nat, Has T [(5, (.msl 1 lo2 0 (List.length out5)))] ∧ Owns ⟨H0, []⟩ H [(lo2, 1, List.map (eInt .i64) out5)] ∧ ref09_With_j2 out5 = some r) ?_ ?_
    · clear hO h0
      rintro T H ⟨out5, lo2, hT, hO, h0⟩
      refine C_has hT ?_
      clear hT
      unfold ref09_With_j2 at h0
      refine C_seq (by kernel_rfl) ?_
      refine A_cl (C_region ttOk (n := 2) (by kernel_rfl) (by kernel_rfl) ?_)
      refine R_all (Ds := []) (by kernel_rfl) trivial ?_
      refine E_has (l := [(4, (.msl 1 lo2 0 (List.length out5)))]) (.eq (by kernel_rfl)) ?_
      refine E_done (thenA_normal (?_))
      refine A_cl (C_ret (by kernel_rfl) ?_)
      refine E_has (l := [(4, (.msl 1 lo2 0 (List.length out5)))]) (.eq (by kernel_rfl)) ?_
      refine E_freezeO (en := (eInt .i64)) out5 0 0 4 1 lo2 (List.length out5) hO (by kernel_rfl) (by kernel_rfl) (by kernel_rfl) (L' := []) (by kernel_rfl) ?_
      intro H3 hO
      obtain rfl := Option.some.inj h0
      exact E_done (Q_ret (x := (eL (eInt .i64) out5)) (by kernel_rfl) (SubV.refl _) ⟨rfl, hO.out⟩)
    · refine C_seq (by kernel_rfl) ?_
      refine A_cl (C_region ttOk (n := 2) (by kernel_rfl) (by kernel_rfl) ?_)
      refine R_all (Ds := []) (by kernel_rfl) trivial ?_
      refine E_has (l := [(1, (eInt .i64 t1)), (5, (.msl 1 lo1 0 (List.length out5))), (44, (eBool (!put6)))]) (.eq (by kernel_rfl)) ?_
      refine E_done (thenA_normal (?_))
      refine C_cond (b := !put6) (by kernel_rfl) (by kernel_rfl) (fun hc6 => ?_) (fun hc6 => ?_)
      · replace h0 := condT hc6 h0
        refine A_cl (C_region ttOk (n := 5) (by kernel_rfl) (by kernel_rfl) ?_)
        refine R_pure 2 (by kernel_rfl) (Ds := []) (by kernel_rfl) trivial ?_
        refine R_bsl (xs := [(eInt .i64 t1)]) (k := 1) (by kernel_rfl) (by kernel_rfl) ?_
        obtain ⟨c5, h0⟩ := asrtE h0
        refine R_appOL (e := (eInt .i64)) out5 ([t1]) 0 lo1 1 8 (frozenOf [(eInt .i64 t1)]) (fun lo4 => [(lo4, 1, List.map (eInt .i64) (out5 ++ ([t1])))]) (by kernel_rfl) (by kernel_rfl) hO (by kernel_rfl) (by kernel_rfl) c5 (fun _ => by kernel_rfl) ?_
        intro lo4 H hO
        refine R_all (Ds := []) (by kernel_rfl) trivial ?_
        refine E_has (l := [(5, (.msl 1 lo4 0 (List.length (out5 ++ ([t1])))))]) (.eq (by kernel_rfl)) ?_
        exact E_done (thenA_normal (⟨rfl, out5 ++ ([t1]), lo4, .eq (by kernel_rfl), hO, h0⟩))
      · replace h0 := condF hc6 h0
        refine A_cl (C_skip (by kernel_rfl) ?_)
        refine E_has (l := [(5, (.msl 1 lo1 0 (List.length out5)))]) (.eq (by kernel_rfl)) ?_
        exact E_done (thenA_normal (⟨rfl, out5, lo1, .eq (by kernel_rfl), hO, h0⟩))
  · refine C_seq (by kernel_rfl) ?_
    refine A_cl (C_region ttOk (n := 1) (by kernel_rfl) (by kernel_rfl) ?_)
    refine R_all (Ds := []) (by kernel_rfl) trivial ?_
    refine E_has (l := [(0, (eL (eInt .i64) l0)), (1, (eInt .i64 t1)), (5, (.sl true 0 (fun _ => .bad))), (6, (eBool false)), (7, (eInt .i64 (0 : Int)))]) (.eq (by kernel_rfl)) ?_
    refine E_done (thenA_normal (?_))
    refine C_block (id := 0) (by kernel_rfl) (by kernel_rfl) ?_
    refine C_has (l := [(0, (eL (eInt .i64) l0)), (1, (eInt .i64 t1)), (5, (.sl true 0 (fun _ => .bad))), (6, (eBool false)), (7, (eInt .i64 (0 : Int)))]) (.eq (by kernel_rfl)) ?_
    refine C_ownO (el := (fun _ => .bad)) 2 5 1 hO (by kernel_rfl) ?_
    intro lo20 H21 hO
    refine C_cut (fun T H => ∃ out5 : List Int, ∃ put6 : Bool, ∃ i7 : Int, ∃ lo8 : Nat, Has T [(0, (eL (eInt .i64) l0)), (1, (eInt .i64 t1)), (5, (.msl 1 lo8 0 (List.length out5))), (6, (eBool put6)), (7, (eInt .i64 i7))] ∧ Owns ⟨H0, []⟩ H [(lo8, 1, List.map (eInt .i64) out5)] ∧ ref09_With_h3 l0 t1 out5 put6 i7 = some r) ?_ ⟨([] : List Int), false, (0 : Int), lo20, .eq (by kernel_rfl), hO, h0⟩
    clear hO h0
    rintro T H ⟨out5, put6, i7, lo8, hT, hO, h0⟩
    refine C_has hT ?_
    clear hT
    unfold ref09_With_h3 at h0
    obtain ⟨rr0, hl0, h0⟩ := bindE h0
    refine C_loopS (by kernel_rfl) (fun (s : List Int × Bool × Int) T H => ∃ lo8 : Nat, Has T [(0, (eL (eInt .i64) l0)), (1, (eInt .i64 t1)), (5, (.msl 1 lo8 0 (List.length s.1))), (6, (eBool s.2.1)), (7, (eInt .i64 s.2.2))] ∧ Owns ⟨H0, []⟩ H [(lo8, 1, List.map (eInt .i64) s.1)]) hl0 ⟨lo8, .eq (by kernel_rfl), hO⟩ ?_
    clear hO
    rintro k0 s out1 T H ⟨lo8, hT, hO⟩ h1 ho0
    obtain ⟨out5, put6, i7⟩ := s
    replace h1 : ref09_With_l3 l0 t1 out5 put6 i7 = some out1 := h1
    refine C_has (l := [(0, (eL (eInt .i64) l0)), (1, (eInt .i64 t1)), (5, (.msl 1 lo8 0 (List.length out5))), (6, (eBool put6)), (7, (eInt .i64 i7))]) hT ?_
    clear hT
    unfold ref09_With_l3 at h1
    refine C_seq (by kernel_rfl) ?_
    refine C_seq (by kernel_rfl) ?_
    refine A_cl (C_region ttOk (n := 4) (by kernel_rfl) (by kernel_rfl) ?_)
    refine R_all (Ds := []) (by kernel_rfl) trivial ?_
    refine E_has (l := [(0, (eL (eInt .i64) l0)), (1, (eInt .i64 t1)), (5, (.msl 1 lo8 0 (List.length out5))), (6, (eBool put6)), (7, (eInt .i64 i7)), (12, (eBool (decide (i7 < ((List.length l0 : Nat) : Int)))))]) (.eq (by kernel_rfl)) ?_
    refine E_done (thenA_normal (?_))
    refine C_cond (b := decide (i7 < ((List.length l0 : Nat) : Int))) (by kernel_rfl) (by kernel_rfl) (fun hc19 => ?_) (fun hc19 => ?_)
    · replace h1 := condT hc19 h1
      refine A_cl (C_skip (by kernel_rfl) ?_)
      refine E_has (l := [(0, (eL (eInt .i64) l0)), (1, (eInt .i64 t1)), (5, (.msl 1 lo8 0 (List.length out5))), (6, (eBool put6)), (7, (eInt .i64 i7))]) (.eq (by kernel_rfl)) ?_
      refine E_done (thenA_normal (?_))
      refine C_seq (by kernel_rfl) ?_
      refine C_block (id := 1) (by kernel_rfl) (by kernel_rfl) ?_
      refine C_seq (by kernel_rfl) ?_
      refine C_seq (by kernel_rfl) ?_
      refine A_cl (C_region ttOk (n := 6) (by kernel_rfl) (by kernel_rfl) ?_)
      obtain ⟨c9, h1⟩ := asrtE h1
      refine R_all (Ds := [0 ≤ i7 ∧ i7 < ((List.length l0 : Nat) : Int)]) (by kernel_rfl) ⟨c9, trivial⟩ ?_
      refine E_has (l := [(0, (eL (eInt .i64) l0)), (1, (eInt .i64 t1)), (5, (.msl 1 lo8 0 (List.length out5))), (6, (eBool put6)), (7, (eInt .i64 i7)), (20, (eBool (decide ((List.getD l0 (Int.toNat i7) default) = t1))))]) (.eq (by kernel_rfl)) ?_
      refine E_done (thenA_normal (?_))
      refine C_cond (b := decide ((List.getD l0 (Int.toNat i7) default) = t1)) (by kernel_rfl) (by kernel_rfl) (fun hc18 => ?_) (fun hc18 => ?_)
      · replace h1 := condT hc18 h1
        refine C_seq (by kernel_rfl) ?_
        refine A_cl (C_region ttOk (n := 2) (by kernel_rfl) (by kernel_rfl) ?_)
        refine R_all (Ds := []) (by kernel_rfl) trivial ?_
        refine E_has (l := [(4, (eL (eInt .i64) l0))]) (.eq (by kernel_rfl)) ?_
        replace hO := hO.pick (L' := []) [] (by decide) (by kernel_rfl)
        refine E_done (thenA_normal (?_))
        refine A_cl (C_ret (by kernel_rfl) ?_)
        refine E_has (l := [(4, (eL (eInt .i64) l0))]) (.eq (by kernel_rfl)) ?_
        obtain rfl := Option.some.inj h1
        obtain rfl : _ = rr0 := ho0
        replace h0 : some l0 = some r := h0
        obtain rfl := Option.some.inj h0
        exact E_done (thenA_ret (blockA_ret (thenA_ret (thenA_ret (blockA_ret (thenA_ret (Q_ret (x := (eL (eInt .i64) l0)) (by kernel_rfl) (SubV.refl _) ⟨rfl, hO.out⟩)))))))
      · replace h1 := condF hc18 h1
        refine A_cl (C_skip (by kernel_rfl) ?_)
        refine E_has (l := [(0, (eL (eInt .i64) l0)), (1, (eInt .i64 t1)), (5, (.msl 1 lo8 0 (List.length out5))), (6, (eBool put6)), (7, (eInt .i64 i7))]) (.eq (by kernel_rfl)) ?_
        refine E_done (thenA_normal (?_))
        refine C_seqJ (by kernel_rfl) (fun T H => ∃ out5 : List Int, ∃ put6 : Bool, ∃ lo10 : Nat, Has T [(0, (eL (eInt .i64) l0)), (1, (eInt .i64 t1)), (5, (.msl 1 lo10 0 (List.length out5))), (6, (eBool put6)), (7, (eInt .i64 i7))] ∧ Owns ⟨H0, []⟩ H [(lo10, 1, List.map (eInt .i64) out5)] ∧ ref09_With_j4 l0 t1 out5 put6 i7 = some out1) ?_ ?_
        · clear hO h1
          rintro T H ⟨out5, put6, lo10, hT, hO, h1⟩
          refine C_has hT ?_
          clear hT
          unfold ref09_With_j4 at h1
          refine A_cl (C_region ttOk (n := 8) (by kernel_rfl) (by kernel_rfl) ?_)
          obtain ⟨c11, h1⟩ := asrtE h1
          refine R_pure 5 (by kernel_rfl) (Ds := [0 ≤ i7 ∧ i7 < ((List.length l0 : Nat) : Int)]) (by kernel_rfl) ⟨c11, trivial⟩ ?_
          refine R_bsl (xs := [(eInt .i64 (List.getD l0 (Int.toNat i7) default))]) (k := 1) (by kernel_rfl) (by kernel_rfl) ?_
          obtain ⟨c13, h1⟩ := asrtE h1
          refine R_appOL (e := (eInt .i64)) out5 ([List.getD l0 (Int.toNat i7) default]) 0 lo10 1 8 (frozenOf [(eInt .i64 (List.getD l0 (Int.toNat i7) default))]) (fun lo12 => [(lo12, 1, List.map (eInt .i64) (out5 ++ ([List.getD l0 (Int.toNat i7) default])))]) (by kernel_rfl) (by kernel_rfl) hO (by kernel_rfl) (by kernel_rfl) c13 (fun _ => by kernel_rfl) ?_
          intro lo12 H hO
          refine R_all (Ds := []) (by kernel_rfl) trivial ?_
          refine E_has (l := [(0, (eL (eInt .i64) l0)), (1, (eInt .i64 t1)), (5, (.msl 1 lo12 0 (List.length (out5 ++ ([List.getD l0 (Int.toNat i7) default]))))), (6, (eBool put6)), (7, (eInt .i64 i7))]) (.eq (by kernel_rfl)) ?_
          refine E_done (blockA_normal (thenA_normal (?_)))
          refine A_cl (C_region ttOk (n := 3) (by kernel_rfl) (by kernel_rfl) ?_)
          refine R_all (Ds := []) (by kernel_rfl) trivial ?_
          refine E_has (l := [(0, (eL (eInt .i64) l0)), (1, (eInt .i64 t1)), (5, (.msl 1 lo12 0 (List.length (out5 ++ ([List.getD l0 (Int.toNat i7) default]))))), (6, (eBool put6)), (7, (eInt .i64 (IntKind.i64.wrap (i7 + (1 : Int)))))]) (.eq (by kernel_rfl)) ?_
          exact E_done (thenA_normal (⟨rfl, (out5 ++ ([List.getD l0 (Int.toNat i7) default]), put6, IntKind.i64.wrap (i7 + (1 : Int))), (Option.some.inj h1).symm, lo12, .eq (by kernel_rfl), hO⟩))
        · refine C_seq (by kernel_rfl) ?_
          refine A_cl (C_region ttOk (n := 10) (by kernel_rfl) (by kernel_rfl) ?_)
          obtain ⟨c14, h1⟩ := asrtE h1
          refine R_all (Ds := [0 ≤ i7 ∧ i7 < ((List.length l0 : Nat) : Int)]) (by kernel_rfl) ⟨c14, trivial⟩ ?_
          refine E_has (l := [(0, (eL (eInt .i64) l0)), (1, (eInt .i64 t1)), (5, (.msl 1 lo8 0 (List.length out5))), (6, (eBool put6)), (7, (eInt .i64 i7)), (31, (eBool ((decide (t1 < (List.getD l0 (Int.toNat i7) default))) && (!put6))))]) (.eq (by kernel_rfl)) ?_
          refine E_done (thenA_normal (?_))
          refine C_cond (b := (decide (t1 < (List.getD l0 (Int.toNat i7) default))) && (!put6)) (by kernel_rfl) (by kernel_rfl) (fun hc17 => ?_) (fun hc17 => ?_)
          · replace h1 := condT hc17 h1
            refine C_seq (by kernel_rfl) ?_
            refine A_cl (C_region ttOk (n := 5) (by kernel_rfl) (by kernel_rfl) ?_)
            refine R_pure 2 (by kernel_rfl) (Ds := []) (by kernel_rfl) trivial ?_
            refine R_bsl (xs := [(eInt .i64 t1)]) (k := 1) (by kernel_rfl) (by kernel_rfl) ?_
            obtain ⟨c16, h1⟩ := asrtE h1
            refine R_appOL (e := (eInt .i64)) out5 ([t1]) 0 lo8 1 8 (frozenOf [(eInt .i64 t1)]) (fun lo15 => [(lo15, 1, List.map (eInt .i64) (out5 ++ ([t1])))]) (by kernel_rfl) (by kernel_rfl) hO (by kernel_rfl) (by kernel_rfl) c16 (fun _ => by kernel_rfl) ?_
            intro lo15 H hO
            refine R_all (Ds := []) (by kernel_rfl) trivial ?_
            refine E_has (l := [(0, (eL (eInt .i64) l0)), (1, (eInt .i64 t1)), (5, (.msl 1 lo15 0 (List.length (out5 ++ ([t1]))))), (7, (eInt .i64 i7))]) (.eq (by kernel_rfl)) ?_
            refine E_done (thenA_normal (?_))
            refine A_cl (C_region ttOk (n := 1) (by kernel_rfl) (by kernel_rfl) ?_)
            refine R_all (Ds := []) (by kernel_rfl) trivial ?_
            refine E_has (l := [(0, (eL (eInt .i64) l0)), (1, (eInt .i64 t1)), (5, (.msl 1 lo15 0 (List.length (out5 ++ ([t1]))))), (6, (eBool true)), (7, (eInt .i64 i7))]) (.eq (by kernel_rfl)) ?_
            exact E_done (thenA_normal (⟨rfl, out5 ++ ([t1]), true, lo15, .eq (by kernel_rfl), hO, h1⟩))
          · replace h1 := condF hc17 h1
            refine A_cl (C_skip (by kernel_rfl) ?_)
            refine E_has (l := [(0, (eL (eInt .i64) l0)), (1, (eInt .i64 t1)), (5, (.msl 1 lo8 0 (List.length out5))), (6, (eBool put6)), (7, (eInt .i64 i7))]) (.eq (by kernel_rfl)) ?_
            exact E_done (thenA_normal (⟨rfl, out5, put6, lo8, .eq (by kernel_rfl), hO, h1⟩))
    · replace h1 := condF hc19 h1
      refine A_cl (C_exit (id := 0) (by kernel_rfl) (by kernel_rfl) ?_)
      refine E_has (l := [(1, (eInt .i64 t1)), (5, (.msl 1 lo8 0 (List.length out5))), (6, (eBool put6))]) (.eq (by kernel_rfl)) ?_
      obtain rfl := Option.some.inj h1
      obtain rfl : _ = rr0 := ho0
      replace h0 : ref09_With_j1 t1 out5 put6 = some r := h0
      exact E_done (thenA_exit (thenA_exit (blockA_hit (thenA_normal (⟨rfl, out5, put6, lo8, .eq (by kernel_rfl), hO, h0⟩)))))

theorem w_ref09_Value (f0 : (List api_Jump)) (t1 : Int) (r : Int) (h0 : s_ref09_Value f0 t1 = some r) : Fine Try.prog 41 [(eL e_api_Jump f0), (eInt .i64 t1)] (eInt .i64 r) := by
  intro H0
  refine F_walk Try.func41 (by kernel_rfl) (by kernel_rfl) (by kernel_rfl) ?_
  have hO := Owns.start H0
  unfold s_ref09_Value at h0
  refine C_seq (by kernel_rfl) ?_
  refine A_cl (C_region ttOk (n := 1) (by kernel_rfl) (by kernel_rfl) ?_)
  refine R_all (Ds := []) (by kernel_rfl) trivial ?_
  refine E_has (l := [(0, (eL e_api_Jump f0)), (1, (eInt .i64 t1))]) (.eq (by kernel_rfl)) ?_
  refine E_done (thenA_normal (?_))
  refine C_seq (by kernel_rfl) ?_
  refine A_cl (C_region ttOk (n := 1) (by kernel_rfl) (by kernel_rfl) ?_)
  refine R_all (Ds := []) (by kernel_rfl) trivial ?_
  refine E_has (l := [(0, (eL e_api_Jump f0)), (1, (eInt .i64 t1)), (5, (eInt .i64 (0 : Int)))]) (.eq (by kernel_rfl)) ?_
  refine E_done (thenA_normal (?_))
  refine C_seqJ (by kernel_rfl) (fun T H => ∃ v5 : Int, Has T [(5, (eInt .i64 v5))] ∧ Owns ⟨H0, []⟩ H [] ∧ ref09_Value_j1 v5 = some r) ?_ ?_
  · clear hO h0
    rintro T H ⟨v5, hT, hO, h0⟩
    refine C_has hT ?_
    clear hT
    unfold ref09_Value_j1 at h0
    refine C_seq (by kernel_rfl) ?_
    refine A_cl (C_region ttOk (n := 2) (by kernel_rfl) (by kernel_rfl) ?_)
    refine R_all (Ds := []) (by kernel_rfl) trivial ?_
    refine E_has (l := [(4, (eInt .i64 v5))]) (.eq (by kernel_rfl)) ?_
    refine E_done (thenA_normal (?_))
    refine A_cl (C_ret (by kernel_rfl) ?_)
    refine E_has (l := [(4, (eInt .i64 v5))]) (.eq (by kernel_rfl)) ?_
    obtain rfl := Option.some.inj h0
    exact E_done (Q_ret (x := (eInt .i64 v5)) (by kernel_rfl) (SubV.refl _) ⟨rfl, hO.out⟩)
  · refine C_seq (by kernel_rfl) ?_
    refine A_cl (C_region ttOk (n := 1) (by kernel_rfl) (by kernel_rfl) ?_)
    refine R_all (Ds := []) (by kernel_rfl) trivial ?_
    refine E_has (l := [(0, (eL e_api_Jump f0)), (1, (eInt .i64 t1)), (5, (eInt .i64 (0 : Int))), (6, (eInt .i64 (0 : Int)))]) (.eq (by kernel_rfl)) ?_
    refine E_done (thenA_normal (?_))
    refine C_block (id := 0) (by kernel_rfl) (by kernel_rfl) ?_
    refine C_has (l := [(0, (eL e_api_Jump f0)), (1, (eInt .i64 t1)), (5, (eInt .i64 (0 : Int))), (6, (eInt .i64 (0 : Int)))]) (.eq (by kernel_rfl)) ?_
    refine C_cut (fun T H => ∃ v5 : Int, ∃ i6 : Int, Has T [(0, (eL e_api_Jump f0)), (1, (eInt .i64 t1)), (5, (eInt .i64 v5)), (6, (eInt .i64 i6))] ∧ Owns ⟨H0, []⟩ H [] ∧ ref09_Value_h2 f0 t1 v5 i6 = some r) ?_ ⟨(0 : Int), (0 : Int), .eq (by kernel_rfl), hO, h0⟩
    clear hO h0
    rintro T H ⟨v5, i6, hT, hO, h0⟩
    refine C_has hT ?_
    clear hT
    unfold ref09_Value_h2 at h0
    obtain ⟨rr0, hl0, h0⟩ := bindE h0
    refine C_loopS (by kernel_rfl) (fun (s : Int × Int) T H => Has T [(0, (eL e_api_Jump f0)), (1, (eInt .i64 t1)), (5, (eInt .i64 s.1)), (6, (eInt .i64 s.2))] ∧ Owns ⟨H0, []⟩ H []) hl0 ⟨.eq (by kernel_rfl), hO⟩ ?_
    clear hO
    rintro k0 s out1 T H ⟨hT, hO⟩ h1 ho0
    obtain ⟨v5, i6⟩ := s
    replace h1 : ref09_Value_l2 f0 t1 v5 i6 = some out1 := h1
    refine C_has (l := [(0, (eL e_api_Jump f0)), (1, (eInt .i64 t1)), (5, (eInt .i64 v5)), (6, (eInt .i64 i6))]) hT ?_
    clear hT
    unfold ref09_Value_l2 at h1
    refine C_seq (by kernel_rfl) ?_
    refine C_seq (by kernel_rfl) ?_
    refine A_cl (C_region ttOk (n := 4) (by kernel_rfl) (by kernel_rfl) ?_)
    refine R_all (Ds := []) (by kernel_rfl) trivial ?_
    refine E_has (l := [(0, (eL e_api_Jump f0)), (1, (eInt .i64 t1)), (5, (eInt .i64 v5)), (6, (eInt .i64 i6)), (10, (eBool (decide (i6 < ((List.length f0 : Nat) : Int)))))]) (.eq (by kernel_rfl)) ?_
    refine E_done (thenA_normal (?_))
    refine C_cond (b := decide (i6 < ((List.length f0 : Nat) : Int))) (by kernel_rfl) (by kernel_rfl) (fun hc4 => ?_) (fun hc4 => ?_)
    · replace h1 := condT hc4 h1
      refine A_cl (C_skip (by kernel_rfl) ?_)
      refine E_has (l := [(0, (eL e_api_Jump f0)), (1, (eInt .i64 t1)), (5, (eInt .i64 v5)), (6, (eInt .i64 i6))]) (.eq (by kernel_rfl)) ?_
      refine E_done (thenA_normal (?_))
      refine C_seqJ (by kernel_rfl) (fun T H => ∃ v5 : Int, Has T [(0, (eL e_api_Jump f0)), (1, (eInt .i64 t1)), (5, (eInt .i64 v5)), (6, (eInt .i64 i6))] ∧ Owns ⟨H0, []⟩ H [] ∧ ref09_Value_j3 f0 t1 v5 i6 = some out1) ?_ ?_
      · clear hO h1
        rintro T H ⟨v5, hT, hO, h1⟩
        refine C_has hT ?_
        clear hT
        unfold ref09_Value_j3 at h1
        refine A_cl (C_region ttOk (n := 3) (by kernel_rfl) (by kernel_rfl) ?_)
        refine R_all (Ds := []) (by kernel_rfl) trivial ?_
        refine E_has (l := [(0, (eL e_api_Jump f0)), (1, (eInt .i64 t1)), (5, (eInt .i64 v5)), (6, (eInt .i64 (IntKind.i64.wrap (i6 + (1 : Int)))))]) (.eq (by kernel_rfl)) ?_
        exact E_done (thenA_normal (⟨rfl, (v5, IntKind.i64.wrap (i6 + (1 : Int))), (Option.some.inj h1).symm, .eq (by kernel_rfl), hO⟩))
      · refine C_block (id := 1) (by kernel_rfl) (by kernel_rfl) ?_
        refine C_seq (by kernel_rfl) ?_
        refine A_cl (C_region ttOk (n := 7) (by kernel_rfl) (by kernel_rfl) ?_)
        obtain ⟨c1, h1⟩ := asrtE h1
        refine R_all (Ds := [0 ≤ i6 ∧ i6 < ((List.length f0 : Nat) : Int)]) (by kernel_rfl) ⟨c1, trivial⟩ ?_
        refine E_has (l := [(0, (eL e_api_Jump f0)), (1, (eInt .i64 t1)), (5, (eInt .i64 v5)), (6, (eInt .i64 i6)), (19, (eBool (decide (((List.getD f0 (Int.toNat i6) default).At) ≤ t1))))]) (.eq (by kernel_rfl)) ?_
        refine E_done (thenA_normal (?_))
        refine C_cond (b := decide (((List.getD f0 (Int.toNat i6) default).At) ≤ t1)) (by kernel_rfl) (by kernel_rfl) (fun hc3 => ?_) (fun hc3 => ?_)
        · replace h1 := condT hc3 h1
          refine A_cl (C_region ttOk (n := 8) (by kernel_rfl) (by kernel_rfl) ?_)
          obtain ⟨c2, h1⟩ := asrtE h1
          refine R_all (Ds := [0 ≤ i6 ∧ i6 < ((List.length f0 : Nat) : Int)]) (by kernel_rfl) ⟨c2, trivial⟩ ?_
          refine E_has (l := [(0, (eL e_api_Jump f0)), (1, (eInt .i64 t1)), (5, (eInt .i64 (IntKind.i64.wrap (v5 + ((List.getD f0 (Int.toNat i6) default).Net))))), (6, (eInt .i64 i6))]) (.eq (by kernel_rfl)) ?_
          exact E_done (blockA_normal (thenA_normal (⟨rfl, IntKind.i64.wrap (v5 + ((List.getD f0 (Int.toNat i6) default).Net)), .eq (by kernel_rfl), hO, h1⟩)))
        · replace h1 := condF hc3 h1
          refine A_cl (C_skip (by kernel_rfl) ?_)
          refine E_has (l := [(0, (eL e_api_Jump f0)), (1, (eInt .i64 t1)), (5, (eInt .i64 v5)), (6, (eInt .i64 i6))]) (.eq (by kernel_rfl)) ?_
          exact E_done (blockA_normal (thenA_normal (⟨rfl, v5, .eq (by kernel_rfl), hO, h1⟩)))
    · replace h1 := condF hc4 h1
      refine A_cl (C_exit (id := 0) (by kernel_rfl) (by kernel_rfl) ?_)
      refine E_has (l := [(5, (eInt .i64 v5))]) (.eq (by kernel_rfl)) ?_
      obtain rfl := Option.some.inj h1
      obtain rfl : _ = rr0 := ho0
      replace h0 : ref09_Value_j1 v5 = some r := h0
      exact E_done (thenA_exit (thenA_exit (blockA_hit (thenA_normal (⟨rfl, v5, .eq (by kernel_rfl), hO, h0⟩)))))

theorem w_ref09_May (f0 : (List api_Jump)) (r : Bool) (h0 : s_ref09_May f0 = some r) : Fine Try.prog 16 [(eL e_api_Jump f0)] (eBool r) := by
  intro H0
  refine F_walk Try.func16 (by kernel_rfl) (by kernel_rfl) (by kernel_rfl) ?_
  have hO := Owns.start H0
  unfold s_ref09_May at h0
  refine C_seq (by kernel_rfl) ?_
  refine A_cl (C_region ttOk (n := 1) (by kernel_rfl) (by kernel_rfl) ?_)
  refine R_all (Ds := []) (by kernel_rfl) trivial ?_
  refine E_has (l := [(0, (eL e_api_Jump f0))]) (.eq (by kernel_rfl)) ?_
  refine E_done (thenA_normal (?_))
  refine C_seq (by kernel_rfl) ?_
  refine C_seq (by kernel_rfl) ?_
  refine A_cl (C_region ttOk (n := 3) (by kernel_rfl) (by kernel_rfl) ?_)
  refine R_all (Ds := []) (by kernel_rfl) trivial ?_
  refine E_has (l := [(0, (eL e_api_Jump f0)), (6, (eBool (decide ((1024 : Int) < ((List.length f0 : Nat) : Int)))))]) (.eq (by kernel_rfl)) ?_
  refine E_done (thenA_normal (?_))
  refine C_cond (b := decide ((1024 : Int) < ((List.length f0 : Nat) : Int))) (by kernel_rfl) (by kernel_rfl) (fun hc12 => ?_) (fun hc12 => ?_)
  · replace h0 := condT hc12 h0
    refine C_seq (by kernel_rfl) ?_
    refine A_cl (C_region ttOk (n := 1) (by kernel_rfl) (by kernel_rfl) ?_)
    refine R_all (Ds := []) (by kernel_rfl) trivial ?_
    refine E_has (l := [(2, (eBool false))]) (.eq (by kernel_rfl)) ?_
    refine E_done (thenA_normal (?_))
    refine A_cl (C_ret (by kernel_rfl) ?_)
    refine E_has (l := [(2, (eBool false))]) (.eq (by kernel_rfl)) ?_
    obtain rfl := Option.some.inj h0
    exact E_done (thenA_ret (Q_ret (x := (eBool false)) (by kernel_rfl) (SubV.refl _) ⟨rfl, hO.out⟩))
  · replace h0 := condF hc12 h0
    refine A_cl (C_skip (by kernel_rfl) ?_)
    refine E_has (l := [(0, (eL e_api_Jump f0))]) (.eq (by kernel_rfl)) ?_
    refine E_done (thenA_normal (?_))
    refine C_seqJ (by kernel_rfl) (fun T H => Has T [] ∧ Owns ⟨H0, []⟩ H [] ∧ ref09_May_j1  = some r) ?_ ?_
    · clear hO h0
      rintro T H ⟨hT, hO, h0⟩
      refine C_has hT ?_
      clear hT
      unfold ref09_May_j1 at h0
      refine C_seq (by kernel_rfl) ?_
      refine A_cl (C_region ttOk (n := 1) (by kernel_rfl) (by kernel_rfl) ?_)
      refine R_all (Ds := []) (by kernel_rfl) trivial ?_
      refine E_has (l := [(2, (eBool true))]) (.eq (by kernel_rfl)) ?_
      refine E_done (thenA_normal (?_))
      refine A_cl (C_ret (by kernel_rfl) ?_)
      refine E_has (l := [(2, (eBool true))]) (.eq (by kernel_rfl)) ?_
      obtain rfl := Option.some.inj h0
      exact E_done (Q_ret (x := (eBool true)) (by kernel_rfl) (SubV.refl _) ⟨rfl, hO.out⟩)
    · refine C_seq (by kernel_rfl) ?_
      refine A_cl (C_region ttOk (n := 1) (by kernel_rfl) (by kernel_rfl) ?_)
      refine R_all (Ds := []) (by kernel_rfl) trivial ?_
      refine E_has (l := [(0, (eL e_api_Jump f0)), (3, (eInt .i64 (0 : Int)))]) (.eq (by kernel_rfl)) ?_
      refine E_done (thenA_normal (?_))
      refine C_block (id := 0) (by kernel_rfl) (by kernel_rfl) ?_
      refine C_has (l := [(0, (eL e_api_Jump f0)), (3, (eInt .i64 (0 : Int)))]) (.eq (by kernel_rfl)) ?_
      refine C_cut (fun T H => ∃ i3 : Int, Has T [(0, (eL e_api_Jump f0)), (3, (eInt .i64 i3))] ∧ Owns ⟨H0, []⟩ H [] ∧ ref09_May_h2 f0 i3 = some r) ?_ ⟨(0 : Int), .eq (by kernel_rfl), hO, h0⟩
      clear hO h0
      rintro T H ⟨i3, hT, hO, h0⟩
      refine C_has hT ?_
      clear hT
      unfold ref09_May_h2 at h0
      obtain ⟨rr0, hl0, h0⟩ := bindE h0
      refine C_loopS (by kernel_rfl) (fun (s : Int) T H => Has T [(0, (eL e_api_Jump f0)), (3, (eInt .i64 s))] ∧ Owns ⟨H0, []⟩ H []) hl0 ⟨.eq (by kernel_rfl), hO⟩ ?_
      clear hO
      rintro k0 s out1 T H ⟨hT, hO⟩ h1 ho0
      obtain ⟨i3, rfl⟩ : ∃ x, x = s := ⟨_, rfl⟩
      replace h1 : ref09_May_l2 f0 i3 = some out1 := h1
      refine C_has (l := [(0, (eL e_api_Jump f0)), (3, (eInt .i64 i3))]) hT ?_
      clear hT
      unfold ref09_May_l2 at h1
      refine C_seq (by kernel_rfl) ?_
      refine C_seq (by kernel_rfl) ?_
      refine A_cl (C_region ttOk (n := 4) (by kernel_rfl) (by kernel_rfl) ?_)
      refine R_all (Ds := []) (by kernel_rfl) trivial ?_
      refine E_has (l := [(0, (eL e_api_Jump f0)), (3, (eInt .i64 i3)), (10, (eBool (decide (i3 < ((List.length f0 : Nat) : Int)))))]) (.eq (by kernel_rfl)) ?_
      refine E_done (thenA_normal (?_))
      refine C_cond (b := decide (i3 < ((List.length f0 : Nat) : Int))) (by kernel_rfl) (by kernel_rfl) (fun hc11 => ?_) (fun hc11 => ?_)
      · replace h1 := condT hc11 h1
        refine A_cl (C_skip (by kernel_rfl) ?_)
        refine E_has (l := [(0, (eL e_api_Jump f0)), (3, (eInt .i64 i3))]) (.eq (by kernel_rfl)) ?_
        refine E_done (thenA_normal (?_))
        refine C_seq (by kernel_rfl) ?_
        refine C_block (id := 1) (by kernel_rfl) (by kernel_rfl) ?_
        refine C_seq (by kernel_rfl) ?_
        refine C_seq (by kernel_rfl) ?_
        refine A_cl (C_region ttOk (n := 38) (by kernel_rfl) (by kernel_rfl) ?_)
        obtain ⟨c1, h1⟩ := asrtE h1
        obtain ⟨c2, h1⟩ := asrtE h1
        obtain ⟨c3, h1⟩ := asrtE h1
        obtain ⟨c4, h1⟩ := asrtE h1
        obtain ⟨c5, h1⟩ := asrtE h1
        refine R_all (Ds := [0 ≤ i3 ∧ i3 < ((List.length f0 : Nat) : Int), (((!(decide (((List.getD f0 (Int.toNat i3) default).At) < (-1 : Int))))) = true → 0 ≤ i3 ∧ i3 < ((List.length f0 : Nat) : Int)), (((!((decide (((List.getD f0 (Int.toNat i3) default).At) < (-1 : Int))) || (decide ((1125899906842624 : Int) ≤ ((List.getD f0 (Int.toNat i3) default).At)))))) = true → 0 ≤ i3 ∧ i3 < ((List.length f0 : Nat) : Int)), (((!(((decide (((List.getD f0 (Int.toNat i3) default).At) < (-1 : Int))) || (decide ((1125899906842624 : Int) ≤ ((List.getD f0 (Int.toNat i3) default).At)))) || (decide (((List.getD f0 (Int.toNat i3) default).Net) = (0 : Int)))))) = true → 0 ≤ i3 ∧ i3 < ((List.length f0 : Nat) : Int)), (((!((((decide (((List.getD f0 (Int.toNat i3) default).At) < (-1 : Int))) || (decide ((1125899906842624 : Int) ≤ ((List.getD f0 (Int.toNat i3) default).At)))) || (decide (((List.getD f0 (Int.toNat i3) default).Net) = (0 : Int)))) || (decide ((1048576 : Int) < ((List.getD f0 (Int.toNat i3) default).Net)))))) = true → 0 ≤ i3 ∧ i3 < ((List.length f0 : Nat) : Int))]) (by kernel_rfl) ⟨c1, c2, c3, c4, c5, trivial⟩ ?_
        refine E_has (l := [(0, (eL e_api_Jump f0)), (3, (eInt .i64 i3)), (50, (eBool (((((decide (((List.getD f0 (Int.toNat i3) default).At) < (-1 : Int))) || (decide ((1125899906842624 : Int) ≤ ((List.getD f0 (Int.toNat i3) default).At)))) || (decide (((List.getD f0 (Int.toNat i3) default).Net) = (0 : Int)))) || (decide ((1048576 : Int) < ((List.getD f0 (Int.toNat i3) default).Net)))) || (decide (((List.getD f0 (Int.toNat i3) default).Net) < (-1048576 : Int))))))]) (.eq (by kernel_rfl)) ?_
        refine E_done (thenA_normal (?_))
        refine C_cond (b := ((((decide (((List.getD f0 (Int.toNat i3) default).At) < (-1 : Int))) || (decide ((1125899906842624 : Int) ≤ ((List.getD f0 (Int.toNat i3) default).At)))) || (decide (((List.getD f0 (Int.toNat i3) default).Net) = (0 : Int)))) || (decide ((1048576 : Int) < ((List.getD f0 (Int.toNat i3) default).Net)))) || (decide (((List.getD f0 (Int.toNat i3) default).Net) < (-1048576 : Int)))) (by kernel_rfl) (by kernel_rfl) (fun hc10 => ?_) (fun hc10 => ?_)
        · replace h1 := condT hc10 h1
          refine C_seq (by kernel_rfl) ?_
          refine A_cl (C_region ttOk (n := 1) (by kernel_rfl) (by kernel_rfl) ?_)
          refine R_all (Ds := []) (by kernel_rfl) trivial ?_
          refine E_has (l := [(2, (eBool false))]) (.eq (by kernel_rfl)) ?_
          refine E_done (thenA_normal (?_))
          refine A_cl (C_ret (by kernel_rfl) ?_)
          refine E_has (l := [(2, (eBool false))]) (.eq (by kernel_rfl)) ?_
          obtain rfl := Option.some.inj h1
          obtain rfl : _ = rr0 := ho0
          replace h0 : some false = some r := h0
          obtain rfl := Option.some.inj h0
          exact E_done (thenA_ret (blockA_ret (thenA_ret (thenA_ret (blockA_ret (thenA_ret (Q_ret (x := (eBool false)) (by kernel_rfl) (SubV.refl _) ⟨rfl, hO.out⟩)))))))
        · replace h1 := condF hc10 h1
          refine A_cl (C_skip (by kernel_rfl) ?_)
          refine E_has (l := [(0, (eL e_api_Jump f0)), (3, (eInt .i64 i3))]) (.eq (by kernel_rfl)) ?_
          refine E_done (thenA_normal (?_))
          refine C_seq (by kernel_rfl) ?_
          obtain ⟨c6, h1⟩ := asrtE h1
          obtain ⟨c7, h1⟩ := asrtE h1
          refine A_cl (C_draw ttOk (by kernel_rfl) (n := 16) (by kernel_rfl) (by kernel_rfl) (by kernel_rfl) ?_)
          refine D_mono (K := fun T H => Has (lift T) [(0, (eL e_api_Jump f0)), (3, (eInt .i64 i3)), (66, (eBool ((decide ((0 : Int) < i3)) && (decide (((List.getD f0 (Int.toNat i3) default).At) ≤ ((List.getD f0 (Int.toNat (IntKind.i64.wrap (i3 - (1 : Int)))) default).At))))))] ∧ Owns ⟨H0, []⟩ H []) ?_ ?_
          · refine D_pure 3 (by kernel_rfl) (Ds := []) (by kernel_rfl) trivial ?_
            refine D_split (t := 53) (e := decide ((0 : Int) < i3)) (by kernel_rfl) (fun hg8 => ?_) (fun hg8 => ?_)
            · refine D_all (Ds := [0 ≤ i3 ∧ i3 < ((List.length f0 : Nat) : Int), 0 ≤ (IntKind.i64.wrap (i3 - (1 : Int))) ∧ (IntKind.i64.wrap (i3 - (1 : Int))) < ((List.length f0 : Nat) : Int)]) (by kernel_rfl) ⟨(c6 (by simp [hg8])), (c7 (by simp [hg8])), trivial⟩ ?_
              exact ⟨⟨[(0, (eL e_api_Jump f0)), (3, (eInt .i64 i3)), (66, (eBool (decide (((List.getD f0 (Int.toNat i3) default).At) ≤ ((List.getD f0 (Int.toNat (IntKind.i64.wrap (i3 - (1 : Int)))) default).At)))))], by kernel_rfl, rfl, ⟨SubV.refl _, SubV.refl _, SubV.eq (by simp [eBool, hg8]), trivial⟩⟩, hO⟩
            · refine D_all (Ds := []) (by kernel_rfl) trivial ?_
              exact ⟨⟨[(0, (eL e_api_Jump f0)), (3, (eInt .i64 i3)), (66, (eBool false))], by kernel_rfl, rfl, ⟨SubV.refl _, SubV.refl _, SubV.eq (by simp [eBool, hg8]), trivial⟩⟩, hO⟩
          · rintro T H ⟨hT, hO⟩
            refine E_has hT ?_
            clear hT
            refine E_has (l := [(0, (eL e_api_Jump f0)), (3, (eInt .i64 i3)), (66, (eBool ((decide ((0 : Int) < i3)) && (decide (((List.getD f0 (Int.toNat i3) default).At) ≤ ((List.getD f0 (Int.toNat (IntKind.i64.wrap (i3 - (1 : Int)))) default).At))))))]) (.eq (by kernel_rfl)) ?_
            refine E_done (thenA_normal (?_))
            refine C_cond (b := (decide ((0 : Int) < i3)) && (decide (((List.getD f0 (Int.toNat i3) default).At) ≤ ((List.getD f0 (Int.toNat (IntKind.i64.wrap (i3 - (1 : Int)))) default).At)))) (by kernel_rfl) (by kernel_rfl) (fun hc9 => ?_) (fun hc9 => ?_)
            · replace h1 := condT hc9 h1
              refine C_seq (by kernel_rfl) ?_
              refine A_cl (C_region ttOk (n := 1) (by kernel_rfl) (by kernel_rfl) ?_)
              refine R_all (Ds := []) (by kernel_rfl) trivial ?_
              refine E_has (l := [(2, (eBool false))]) (.eq (by kernel_rfl)) ?_
              refine E_done (thenA_normal (?_))
              refine A_cl (C_ret (by kernel_rfl) ?_)
              refine E_has (l := [(2, (eBool false))]) (.eq (by kernel_rfl)) ?_
              obtain rfl := Option.some.inj h1
              obtain rfl : _ = rr0 := ho0
              replace h0 : some false = some r := h0
              obtain rfl := Option.some.inj h0
              exact E_done (blockA_ret (thenA_ret (thenA_ret (blockA_ret (thenA_ret (Q_ret (x := (eBool false)) (by kernel_rfl) (SubV.refl _) ⟨rfl, hO.out⟩))))))
            · replace h1 := condF hc9 h1
              refine A_cl (C_skip (by kernel_rfl) ?_)
              refine E_has (l := [(0, (eL e_api_Jump f0)), (3, (eInt .i64 i3))]) (.eq (by kernel_rfl)) ?_
              refine E_done (blockA_normal (thenA_normal (?_)))
              refine A_cl (C_region ttOk (n := 3) (by kernel_rfl) (by kernel_rfl) ?_)
              refine R_all (Ds := []) (by kernel_rfl) trivial ?_
              refine E_has (l := [(0, (eL e_api_Jump f0)), (3, (eInt .i64 (IntKind.i64.wrap (i3 + (1 : Int)))))]) (.eq (by kernel_rfl)) ?_
              exact E_done (thenA_normal (⟨rfl, IntKind.i64.wrap (i3 + (1 : Int)), (Option.some.inj h1).symm, .eq (by kernel_rfl), hO⟩))
      · replace h1 := condF hc11 h1
        refine A_cl (C_exit (id := 0) (by kernel_rfl) (by kernel_rfl) ?_)
        refine E_has (l := []) (.eq (by kernel_rfl)) ?_
        obtain rfl := Option.some.inj h1
        obtain rfl : _ = rr0 := ho0
        replace h0 : ref09_May_j1  = some r := h0
        exact E_done (thenA_exit (thenA_exit (blockA_hit (thenA_normal (⟨rfl, .eq (by kernel_rfl), hO, h0⟩)))))

theorem w_ref09_Told (places0 : (List Int)) (values1 : (List Int)) (r : ((List api_Jump) × Int)) (h0 : s_ref09_Told places0 values1 = some r) : Fine Try.prog 42 [(eL (eInt .i64) places0), (eL (eInt .i64) values1)] (.tup [(eL e_api_Jump r.1), (eInt .i64 r.2)]) := by
  intro H0
  refine F_walk Try.func42 (by kernel_rfl) (by kernel_rfl) (by kernel_rfl) ?_
  have hO := Owns.start H0
  unfold s_ref09_Told at h0
  refine C_seq (by kernel_rfl) ?_
  refine A_cl (C_region ttOk (n := 2) (by kernel_rfl) (by kernel_rfl) ?_)
  refine R_all (Ds := []) (by kernel_rfl) trivial ?_
  refine E_has (l := [(0, (eL (eInt .i64) places0)), (1, (eL (eInt .i64) values1))]) (.eq (by kernel_rfl)) ?_
  refine E_done (thenA_normal (?_))
  refine C_seq (by kernel_rfl) ?_
  refine A_cl (C_region ttOk (n := 2) (by kernel_rfl) (by kernel_rfl) ?_)
  refine R_bsl (xs := []) (k := 2) (by kernel_rfl) (by kernel_rfl) ?_
  refine R_all (Ds := []) (by kernel_rfl) trivial ?_
  refine E_has (l := [(0, (eL (eInt .i64) places0)), (1, (eL (eInt .i64) values1)), (6, (.sl true 0 (fun _ => .bad)))]) (.eq (by kernel_rfl)) ?_
  refine E_done (thenA_normal (?_))
  refine C_seq (by kernel_rfl) ?_
  refine A_cl (C_region ttOk (n := 1) (by kernel_rfl) (by kernel_rfl) ?_)
  refine R_all (Ds := []) (by kernel_rfl) trivial ?_
  refine E_has (l := [(0, (eL (eInt .i64) places0)), (1, (eL (eInt .i64) values1)), (6, (.sl true 0 (fun _ => .bad))), (7, (eInt .i64 (0 : Int)))]) (.eq (by kernel_rfl)) ?_
  refine E_done (thenA_normal (?_))
  refine C_seqJ (by kernel_rfl) (fun T H => ∃ f6 : List api_Jump, ∃ lo1 : Nat, Has T [(6, (.msl 2 lo1 0 (List.length f6)))] ∧ Owns ⟨H0, []⟩ H [(lo1, 2, List.map e_api_Jump f6)] ∧ ref09_Told_j1 f6 = some r) ?_ ?_
  · clear hO h0
    rintro T H ⟨f6, lo1, hT, hO, h0⟩
    refine C_has hT ?_
    clear hT
    unfold ref09_Told_j1 at h0
    refine C_seq (by kernel_rfl) ?_
    refine C_seq (by kernel_rfl) ?_
    refine A_cl (C_region ttOk (n := 3) (by kernel_rfl) (by kernel_rfl) ?_)
    refine R_freezeO (e := e_api_Jump) f6 0 6 2 lo1 (List.length f6) [] (by kernel_rfl) hO (by kernel_rfl) (by kernel_rfl) (by kernel_rfl) (by kernel_rfl) ?_
    intro H hO
    refine R_pure 1 (by kernel_rfl) (Ds := []) (by kernel_rfl) trivial ?_
    obtain ⟨x2, hx3, h0⟩ := bindE h0
    refine R_callO [] 16 [(eL e_api_Jump f6)] (eBool x2) true (by kernel_rfl) (by kernel_rfl) (by kernel_rfl) (fun hb4 => (w_ref09_May f6 _ hx3)) hO ?_
    intro H hO
    refine R_all (Ds := []) (by kernel_rfl) trivial ?_
    refine E_has (l := [(6, (eL e_api_Jump f6)), (42, (eBool (!x2)))]) (.eq (by kernel_rfl)) ?_
    refine E_done (thenA_normal (?_))
    refine C_cond (b := !x2) (by kernel_rfl) (by kernel_rfl) (fun hc5 => ?_) (fun hc5 => ?_)
    · replace h0 := condT hc5 h0
      refine C_seq (by kernel_rfl) ?_
      refine A_cl (C_region ttOk (n := 2) (by kernel_rfl) (by kernel_rfl) ?_)
      refine R_all (Ds := []) (by kernel_rfl) trivial ?_
      refine E_has (l := [(4, (.sl true 0 (fun _ => .bad))), (5, (eInt .i64 (7 : Int)))]) (.eq (by kernel_rfl)) ?_
      refine E_done (thenA_normal (?_))
      refine A_cl (C_ret (by kernel_rfl) ?_)
      refine E_has (l := [(4, (eL e_api_Jump ([]))), (5, (eInt .i64 (7 : Int)))]) ⟨[(4, (.sl true 0 (fun _ => .bad))), (5, (eInt .i64 (7 : Int)))], by kernel_rfl, rfl, ⟨subNilL, SubV.refl _, trivial⟩⟩ ?_
      obtain rfl := Option.some.inj h0
      exact E_done (thenA_ret (Q_ret (x := (.tup [(eL e_api_Jump ([])), (eInt .i64 (7 : Int))])) (by kernel_rfl) (SubV.refl _) ⟨rfl, hO.out⟩))
    · replace h0 := condF hc5 h0
      refine A_cl (C_skip (by kernel_rfl) ?_)
      refine E_has (l := [(6, (eL e_api_Jump f6))]) (.eq (by kernel_rfl)) ?_
      refine E_done (thenA_normal (?_))
      refine C_seq (by kernel_rfl) ?_
      refine A_cl (C_region ttOk (n := 3) (by kernel_rfl) (by kernel_rfl) ?_)
      refine R_all (Ds := []) (by kernel_rfl) trivial ?_
      refine E_has (l := [(4, (eL e_api_Jump f6)), (5, (eInt .i64 (0 : Int)))]) (.eq (by kernel_rfl)) ?_
      refine E_done (thenA_normal (?_))
      refine A_cl (C_ret (by kernel_rfl) ?_)
      refine E_has (l := [(4, (eL e_api_Jump f6)), (5, (eInt .i64 (0 : Int)))]) (.eq (by kernel_rfl)) ?_
      obtain rfl := Option.some.inj h0
      exact E_done (Q_ret (x := (.tup [(eL e_api_Jump f6), (eInt .i64 (0 : Int))])) (by kernel_rfl) (SubV.refl _) ⟨rfl, hO.out⟩)
  · refine C_seq (by kernel_rfl) ?_
    refine A_cl (C_region ttOk (n := 1) (by kernel_rfl) (by kernel_rfl) ?_)
    refine R_all (Ds := []) (by kernel_rfl) trivial ?_
    refine E_has (l := [(0, (eL (eInt .i64) places0)), (1, (eL (eInt .i64) values1)), (6, (.sl true 0 (fun _ => .bad))), (7, (eInt .i64 (0 : Int))), (8, (eInt .i64 (0 : Int)))]) (.eq (by kernel_rfl)) ?_
    refine E_done (thenA_normal (?_))
    refine C_block (id := 0) (by kernel_rfl) (by kernel_rfl) ?_
    refine C_has (l := [(0, (eL (eInt .i64) places0)), (1, (eL (eInt .i64) values1)), (6, (.sl true 0 (fun _ => .bad))), (7, (eInt .i64 (0 : Int))), (8, (eInt .i64 (0 : Int)))]) (.eq (by kernel_rfl)) ?_
    refine C_ownO (el := (fun _ => .bad)) 2 6 2 hO (by kernel_rfl) ?_
    intro lo17 H18 hO
    refine C_cut (fun T H => ∃ f6 : List api_Jump, ∃ was7 : Int, ∃ i8 : Int, ∃ lo7 : Nat, Has T [(0, (eL (eInt .i64) places0)), (1, (eL (eInt .i64) values1)), (6, (.msl 2 lo7 0 (List.length f6))), (7, (eInt .i64 was7)), (8, (eInt .i64 i8))] ∧ Owns ⟨H0, []⟩ H [(lo7, 2, List.map e_api_Jump f6)] ∧ ref09_Told_h2 places0 values1 f6 was7 i8 = some r) ?_ ⟨([] : List api_Jump), (0 : Int), (0 : Int), lo17, .eq (by kernel_rfl), hO, h0⟩
    clear hO h0
    rintro T H ⟨f6, was7, i8, lo7, hT, hO, h0⟩
    refine C_has hT ?_
    clear hT
    unfold ref09_Told_h2 at h0
    obtain ⟨rr0, hl0, h0⟩ := bindE h0
    refine C_loopS (by kernel_rfl) (fun (s : List api_Jump × Int × Int) T H => ∃ lo7 : Nat, Has T [(0, (eL (eInt .i64) places0)), (1, (eL (eInt .i64) values1)), (6, (.msl 2 lo7 0 (List.length s.1))), (7, (eInt .i64 s.2.1)), (8, (eInt .i64 s.2.2))] ∧ Owns ⟨H0, []⟩ H [(lo7, 2, List.map e_api_Jump s.1)]) hl0 ⟨lo7, .eq (by kernel_rfl), hO⟩ ?_
    clear hO
    rintro k0 s out1 T H ⟨lo7, hT, hO⟩ h1 ho0
    obtain ⟨f6, was7, i8⟩ := s
    replace h1 : ref09_Told_l2 places0 values1 f6 was7 i8 = some out1 := h1
    refine C_has (l := [(0, (eL (eInt .i64) places0)), (1, (eL (eInt .i64) values1)), (6, (.msl 2 lo7 0 (List.length f6))), (7, (eInt .i64 was7)), (8, (eInt .i64 i8))]) hT ?_
    clear hT
    unfold ref09_Told_l2 at h1
    refine C_seq (by kernel_rfl) ?_
    refine C_seq (by kernel_rfl) ?_
    refine A_cl (C_region ttOk (n := 4) (by kernel_rfl) (by kernel_rfl) ?_)
    refine R_all (Ds := []) (by kernel_rfl) trivial ?_
    refine E_has (l := [(0, (eL (eInt .i64) places0)), (1, (eL (eInt .i64) values1)), (6, (.msl 2 lo7 0 (List.length f6))), (7, (eInt .i64 was7)), (8, (eInt .i64 i8)), (13, (eBool (decide (i8 < ((List.length places0 : Nat) : Int)))))]) (.eq (by kernel_rfl)) ?_
    refine E_done (thenA_normal (?_))
    refine C_cond (b := decide (i8 < ((List.length places0 : Nat) : Int))) (by kernel_rfl) (by kernel_rfl) (fun hc16 => ?_) (fun hc16 => ?_)
    · replace h1 := condT hc16 h1
      refine A_cl (C_skip (by kernel_rfl) ?_)
      refine E_has (l := [(0, (eL (eInt .i64) places0)), (1, (eL (eInt .i64) values1)), (6, (.msl 2 lo7 0 (List.length f6))), (7, (eInt .i64 was7)), (8, (eInt .i64 i8))]) (.eq (by kernel_rfl)) ?_
      refine E_done (thenA_normal (?_))
      refine C_seq (by kernel_rfl) ?_
      refine C_block (id := 1) (by kernel_rfl) (by kernel_rfl) ?_
      refine C_seqJ (by kernel_rfl) (fun T H => ∃ f6 : List api_Jump, ∃ lo8 : Nat, Has T [(0, (eL (eInt .i64) places0)), (1, (eL (eInt .i64) values1)), (6, (.msl 2 lo8 0 (List.length f6))), (8, (eInt .i64 i8))] ∧ Owns ⟨H0, []⟩ H [(lo8, 2, List.map e_api_Jump f6)] ∧ ref09_Told_j3 places0 values1 f6 i8 = some out1) ?_ ?_
      · clear hO h1
        rintro T H ⟨f6, lo8, hT, hO, h1⟩
        refine C_has hT ?_
        clear hT
        unfold ref09_Told_j3 at h1
        refine A_cl (C_region ttOk (n := 5) (by kernel_rfl) (by kernel_rfl) ?_)
        obtain ⟨c9, h1⟩ := asrtE h1
        refine R_all (Ds := [0 ≤ i8 ∧ i8 < ((List.length values1 : Nat) : Int)]) (by kernel_rfl) ⟨c9, trivial⟩ ?_
        refine E_has (l := [(0, (eL (eInt .i64) places0)), (1, (eL (eInt .i64) values1)), (6, (.msl 2 lo8 0 (List.length f6))), (7, (eInt .i64 (List.getD values1 (Int.toNat i8) default))), (8, (eInt .i64 i8))]) (.eq (by kernel_rfl)) ?_
        refine E_done (blockA_normal (thenA_normal (?_)))
        refine A_cl (C_region ttOk (n := 3) (by kernel_rfl) (by kernel_rfl) ?_)
        refine R_all (Ds := []) (by kernel_rfl) trivial ?_
        refine E_has (l := [(0, (eL (eInt .i64) places0)), (1, (eL (eInt .i64) values1)), (6, (.msl 2 lo8 0 (List.length f6))), (7, (eInt .i64 (List.getD values1 (Int.toNat i8) default))), (8, (eInt .i64 (IntKind.i64.wrap (i8 + (1 : Int)))))]) (.eq (by kernel_rfl)) ?_
        exact E_done (thenA_normal (⟨rfl, (f6, List.getD values1 (Int.toNat i8) default, IntKind.i64.wrap (i8 + (1 : Int))), (Option.some.inj h1).symm, lo8, .eq (by kernel_rfl), hO⟩))
      · refine C_seq (by kernel_rfl) ?_
        refine A_cl (C_region ttOk (n := 6) (by kernel_rfl) (by kernel_rfl) ?_)
        obtain ⟨c10, h1⟩ := asrtE h1
        refine R_all (Ds := [0 ≤ i8 ∧ i8 < ((List.length values1 : Nat) : Int)]) (by kernel_rfl) ⟨c10, trivial⟩ ?_
        refine E_has (l := [(0, (eL (eInt .i64) places0)), (1, (eL (eInt .i64) values1)), (6, (.msl 2 lo7 0 (List.length f6))), (7, (eInt .i64 was7)), (8, (eInt .i64 i8)), (21, (eBool (!decide ((List.getD values1 (Int.toNat i8) default) = was7))))]) (.eq (by kernel_rfl)) ?_
        refine E_done (thenA_normal (?_))
        refine C_cond (b := !decide ((List.getD values1 (Int.toNat i8) default) = was7)) (by kernel_rfl) (by kernel_rfl) (fun hc15 => ?_) (fun hc15 => ?_)
        · replace h1 := condT hc15 h1
          refine A_cl (C_draw ttOk (by kernel_rfl) (n := 15) (by kernel_rfl) (by kernel_rfl) (by kernel_rfl) ?_)
          obtain ⟨c11, h1⟩ := asrtE h1
          obtain ⟨c12, h1⟩ := asrtE h1
          refine D_pure 12 (by kernel_rfl) (Ds := [0 ≤ i8 ∧ i8 < ((List.length places0 : Nat) : Int), 0 ≤ i8 ∧ i8 < ((List.length values1 : Nat) : Int)]) (by kernel_rfl) ⟨c11, c12, trivial⟩ ?_
          refine D_bsl (xs := [(e_api_Jump (api_Jump.mk (List.getD places0 (Int.toNat i8) default) (IntKind.i64.wrap ((List.getD values1 (Int.toNat i8) default) - was7))))]) (k := 2) (by kernel_rfl) (by kernel_rfl) ?_
          obtain ⟨c14, h1⟩ := asrtE h1
          refine D_appOL (e := e_api_Jump) f6 ([api_Jump.mk (List.getD places0 (Int.toNat i8) default) (IntKind.i64.wrap ((List.getD values1 (Int.toNat i8) default) - was7))]) 0 lo7 2 16 (frozenOf [(e_api_Jump (api_Jump.mk (List.getD places0 (Int.toNat i8) default) (IntKind.i64.wrap ((List.getD values1 (Int.toNat i8) default) - was7))))]) (fun lo13 => [(lo13, 2, List.map e_api_Jump (f6 ++ ([api_Jump.mk (List.getD places0 (Int.toNat i8) default) (IntKind.i64.wrap ((List.getD values1 (Int.toNat i8) default) - was7))])))]) (by kernel_rfl) (by kernel_rfl) hO (by kernel_rfl) (by kernel_rfl) c14 (fun _ => by kernel_rfl) ?_
          intro lo13 H hO
          refine D_all (Ds := []) (by kernel_rfl) trivial ?_
          refine E_has (l := [(0, (eL (eInt .i64) places0)), (1, (eL (eInt .i64) values1)), (6, (.msl 2 lo13 0 (List.length (f6 ++ ([api_Jump.mk (List.getD places0 (Int.toNat i8) default) (IntKind.i64.wrap ((List.getD values1 (Int.toNat i8) default) - was7))]))))), (8, (eInt .i64 i8))]) (.eq (by kernel_rfl)) ?_
          exact E_done (thenA_normal (⟨rfl, f6 ++ ([api_Jump.mk (List.getD places0 (Int.toNat i8) default) (IntKind.i64.wrap ((List.getD values1 (Int.toNat i8) default) - was7))]), lo13, .eq (by kernel_rfl), hO, h1⟩))
        · replace h1 := condF hc15 h1
          refine A_cl (C_skip (by kernel_rfl) ?_)
          refine E_has (l := [(0, (eL (eInt .i64) places0)), (1, (eL (eInt .i64) values1)), (6, (.msl 2 lo7 0 (List.length f6))), (8, (eInt .i64 i8))]) (.eq (by kernel_rfl)) ?_
          exact E_done (thenA_normal (⟨rfl, f6, lo7, .eq (by kernel_rfl), hO, h1⟩))
    · replace h1 := condF hc16 h1
      refine A_cl (C_exit (id := 0) (by kernel_rfl) (by kernel_rfl) ?_)
      refine E_has (l := [(6, (.msl 2 lo7 0 (List.length f6)))]) (.eq (by kernel_rfl)) ?_
      obtain rfl := Option.some.inj h1
      obtain rfl : _ = rr0 := ho0
      replace h0 : ref09_Told_j1 f6 = some r := h0
      exact E_done (thenA_exit (thenA_exit (blockA_hit (thenA_normal (⟨rfl, f6, lo7, .eq (by kernel_rfl), hO, h0⟩)))))

theorem w_ref09_Norm (l0 : (List api_Jump)) (r : ((List api_Jump) × Int)) (h0 : s_ref09_Norm l0 = some r) : Fine Try.prog 13 [(eL e_api_Jump l0)] (.tup [(eL e_api_Jump r.1), (eInt .i64 r.2)]) := by
  intro H0
  refine F_walk Try.func13 (by kernel_rfl) (by kernel_rfl) (by kernel_rfl) ?_
  have hO := Owns.start H0
  unfold s_ref09_Norm at h0
  refine C_seq (by kernel_rfl) ?_
  refine A_cl (C_region ttOk (n := 2) (by kernel_rfl) (by kernel_rfl) ?_)
  refine R_all (Ds := []) (by kernel_rfl) trivial ?_
  refine E_has (l := [(0, (eL e_api_Jump l0))]) (.eq (by kernel_rfl)) ?_
  refine E_done (thenA_normal (?_))
  refine C_seqJ (by kernel_rfl) (fun T H => Has T [(0, (eL e_api_Jump l0))] ∧ Owns ⟨H0, []⟩ H [] ∧ ref09_Norm_j1 l0 = some r) ?_ ?_
  · clear hO h0
    rintro T H ⟨hT, hO, h0⟩
    refine C_has hT ?_
    clear hT
    unfold ref09_Norm_j1 at h0
    refine C_seq (by kernel_rfl) ?_
    refine A_cl (C_region ttOk (n := 2) (by kernel_rfl) (by kernel_rfl) ?_)
    refine R_bsl (xs := []) (k := 1) (by kernel_rfl) (by kernel_rfl) ?_
    refine R_all (Ds := []) (by kernel_rfl) trivial ?_
    refine E_has (l := [(0, (eL e_api_Jump l0)), (5, (.sl true 0 (fun _ => .bad)))]) (.eq (by kernel_rfl)) ?_
    refine E_done (thenA_normal (?_))
    refine C_seqJ (by kernel_rfl) (fun T H => ∃ places5 : (List Int), Has T [(0, (eL e_api_Jump l0)), (5, (eL (eInt .i64) places5))] ∧ Owns ⟨H0, []⟩ H [] ∧ ref09_Norm_j2 l0 places5 = some r) ?_ ?_
    · clear hO h0
      rintro T H ⟨places5, hT, hO, h0⟩
      refine C_has hT ?_
      clear hT
      unfold ref09_Norm_j2 at h0
      refine C_seq (by kernel_rfl) ?_
      refine A_cl (C_region ttOk (n := 2) (by kernel_rfl) (by kernel_rfl) ?_)
      refine R_bsl (xs := []) (k := 1) (by kernel_rfl) (by kernel_rfl) ?_
      refine R_all (Ds := []) (by kernel_rfl) trivial ?_
      refine E_has (l := [(0, (eL e_api_Jump l0)), (5, (eL (eInt .i64) places5)), (7, (.sl true 0 (fun _ => .bad)))]) (.eq (by kernel_rfl)) ?_
      refine E_done (thenA_normal (?_))
      refine C_seqJ (by kernel_rfl) (fun T H => ∃ values7 : List Int, ∃ lo1 : Nat, Has T [(5, (eL (eInt .i64) places5)), (7, (.msl 1 lo1 0 (List.length values7)))] ∧ Owns ⟨H0, []⟩ H [(lo1, 1, List.map (eInt .i64) values7)] ∧ ref09_Norm_j3 places5 values7 = some r) ?_ ?_
      · clear hO h0
        rintro T H ⟨values7, lo1, hT, hO, h0⟩
        refine C_has hT ?_
        clear hT
        unfold ref09_Norm_j3 at h0
        refine C_seq (by kernel_rfl) ?_
        refine A_cl (C_region ttOk (n := 7) (by kernel_rfl) (by kernel_rfl) ?_)
        refine R_freezeO (e := (eInt .i64)) values7 0 7 1 lo1 (List.length values7) [] (by kernel_rfl) hO (by kernel_rfl) (by kernel_rfl) (by kernel_rfl) (by kernel_rfl) ?_
        intro H hO
        refine R_pure 2 (by kernel_rfl) (Ds := []) (by kernel_rfl) trivial ?_
        obtain ⟨x2, hx3, h0⟩ := bindE h0
        refine R_callO [] 42 [(eL (eInt .i64) places5), (eL (eInt .i64) values7)] (.tup [(eL e_api_Jump x2.1), (eInt .i64 x2.2)]) true (by kernel_rfl) (by kernel_rfl) (by kernel_rfl) (fun hb4 => (w_ref09_Told places5 values7 _ hx3)) hO ?_
        intro H hO
        refine R_all (Ds := []) (by kernel_rfl) trivial ?_
        refine E_has (l := [(2, (eL e_api_Jump x2.1)), (3, (eInt .i64 x2.2))]) (.eq (by kernel_rfl)) ?_
        refine E_done (thenA_normal (?_))
        refine A_cl (C_ret (by kernel_rfl) ?_)
        refine E_has (l := [(2, (eL e_api_Jump x2.1)), (3, (eInt .i64 x2.2))]) (.eq (by kernel_rfl)) ?_
        obtain rfl := Option.some.inj h0
        exact E_done (Q_ret (x := (.tup [(eL e_api_Jump x2.1), (eInt .i64 x2.2)])) (by kernel_rfl) (SubV.refl _) ⟨rfl, hO.out⟩)
      · refine C_seq (by kernel_rfl) ?_
        refine A_cl (C_region ttOk (n := 1) (by kernel_rfl) (by kernel_rfl) ?_)
        refine R_all (Ds := []) (by kernel_rfl) trivial ?_
        refine E_has (l := [(0, (eL e_api_Jump l0)), (5, (eL (eInt .i64) places5)), (7, (.sl true 0 (fun _ => .bad))), (8, (eInt .i64 (0 : Int)))]) (.eq (by kernel_rfl)) ?_
        refine E_done (thenA_normal (?_))
        refine C_block (id := 4) (by kernel_rfl) (by kernel_rfl) ?_
        refine C_has (l := [(0, (eL e_api_Jump l0)), (5, (eL (eInt .i64) places5)), (7, (.sl true 0 (fun _ => .bad))), (8, (eInt .i64 (0 : Int)))]) (.eq (by kernel_rfl)) ?_
        refine C_ownO (el := (fun _ => .bad)) 2 7 1 hO (by kernel_rfl) ?_
        intro lo14 H15 hO
        refine C_cut (fun T H => ∃ values7 : List Int, ∃ i8 : Int, ∃ lo6 : Nat, Has T [(0, (eL e_api_Jump l0)), (5, (eL (eInt .i64) places5)), (7, (.msl 1 lo6 0 (List.length values7))), (8, (eInt .i64 i8))] ∧ Owns ⟨H0, []⟩ H [(lo6, 1, List.map (eInt .i64) values7)] ∧ ref09_Norm_h4 l0 places5 values7 i8 = some r) ?_ ⟨([] : List Int), (0 : Int), lo14, .eq (by kernel_rfl), hO, h0⟩
        clear hO h0
        rintro T H ⟨values7, i8, lo6, hT, hO, h0⟩
        refine C_has hT ?_
        clear hT
        unfold ref09_Norm_h4 at h0
        obtain ⟨rr0, hl0, h0⟩ := bindE h0
        refine C_loopS (by kernel_rfl) (fun (s : List Int × Int) T H => ∃ lo6 : Nat, Has T [(0, (eL e_api_Jump l0)), (5, (eL (eInt .i64) places5)), (7, (.msl 1 lo6 0 (List.length s.1))), (8, (eInt .i64 s.2))] ∧ Owns ⟨H0, []⟩ H [(lo6, 1, List.map (eInt .i64) s.1)]) hl0 ⟨lo6, .eq (by kernel_rfl), hO⟩ ?_
        clear hO
        rintro k0 s out1 T H ⟨lo6, hT, hO⟩ h1 ho0
        obtain ⟨values7, i8⟩ := s
        replace h1 : ref09_Norm_l4 l0 places5 values7 i8 = some out1 := h1
        refine C_has (l := [(0, (eL e_api_Jump l0)), (5, (eL (eInt .i64) places5)), (7, (.msl 1 lo6 0 (List.length values7))), (8, (eInt .i64 i8))]) hT ?_
        clear hT
        unfold ref09_Norm_l4 at h1
        refine C_seq (by kernel_rfl) ?_
        refine C_seq (by kernel_rfl) ?_
        refine A_cl (C_region ttOk (n := 4) (by kernel_rfl) (by kernel_rfl) ?_)
        refine R_all (Ds := []) (by kernel_rfl) trivial ?_
        refine E_has (l := [(0, (eL e_api_Jump l0)), (5, (eL (eInt .i64) places5)), (7, (.msl 1 lo6 0 (List.length values7))), (8, (eInt .i64 i8)), (67, (eBool (decide (i8 < ((List.length places5 : Nat) : Int)))))]) (.eq (by kernel_rfl)) ?_
        refine E_done (thenA_normal (?_))
        refine C_cond (b := decide (i8 < ((List.length places5 : Nat) : Int))) (by kernel_rfl) (by kernel_rfl) (fun hc13 => ?_) (fun hc13 => ?_)
        · replace h1 := condT hc13 h1
          refine A_cl (C_skip (by kernel_rfl) ?_)
          refine E_has (l := [(0, (eL e_api_Jump l0)), (5, (eL (eInt .i64) places5)), (7, (.msl 1 lo6 0 (List.length values7))), (8, (eInt .i64 i8))]) (.eq (by kernel_rfl)) ?_
          refine E_done (thenA_normal (?_))
          refine C_seq (by kernel_rfl) ?_
          refine C_block (id := 5) (by kernel_rfl) (by kernel_rfl) ?_
          refine A_cl (C_region ttOk (n := 10) (by kernel_rfl) (by kernel_rfl) ?_)
          obtain ⟨c7, h1⟩ := asrtE h1
          refine R_pure 6 (by kernel_rfl) (Ds := [0 ≤ i8 ∧ i8 < ((List.length places5 : Nat) : Int)]) (by kernel_rfl) ⟨c7, trivial⟩ ?_
          obtain ⟨x8, hx9, h1⟩ := bindE h1
          refine R_callO [] 41 [(eL e_api_Jump l0), (eInt .i64 (List.getD places5 (Int.toNat i8) default))] (eInt .i64 x8) true (by kernel_rfl) (by kernel_rfl) (by kernel_rfl) (fun hb10 => (w_ref09_Value l0 (List.getD places5 (Int.toNat i8) default) _ hx9)) hO ?_
          intro H hO
          refine R_bsl (xs := [(eInt .i64 x8)]) (k := 1) (by kernel_rfl) (by kernel_rfl) ?_
          obtain ⟨c12, h1⟩ := asrtE h1
          refine R_appOL (e := (eInt .i64)) values7 ([x8]) 0 lo6 1 8 (frozenOf [(eInt .i64 x8)]) (fun lo11 => [(lo11, 1, List.map (eInt .i64) (values7 ++ ([x8])))]) (by kernel_rfl) (by kernel_rfl) hO (by kernel_rfl) (by kernel_rfl) c12 (fun _ => by kernel_rfl) ?_
          intro lo11 H hO
          refine R_all (Ds := []) (by kernel_rfl) trivial ?_
          refine E_has (l := [(0, (eL e_api_Jump l0)), (5, (eL (eInt .i64) places5)), (7, (.msl 1 lo11 0 (List.length (values7 ++ ([x8]))))), (8, (eInt .i64 i8))]) (.eq (by kernel_rfl)) ?_
          refine E_done (blockA_normal (thenA_normal (?_)))
          refine A_cl (C_region ttOk (n := 3) (by kernel_rfl) (by kernel_rfl) ?_)
          refine R_all (Ds := []) (by kernel_rfl) trivial ?_
          refine E_has (l := [(0, (eL e_api_Jump l0)), (5, (eL (eInt .i64) places5)), (7, (.msl 1 lo11 0 (List.length (values7 ++ ([x8]))))), (8, (eInt .i64 (IntKind.i64.wrap (i8 + (1 : Int)))))]) (.eq (by kernel_rfl)) ?_
          exact E_done (thenA_normal (⟨rfl, (values7 ++ ([x8]), IntKind.i64.wrap (i8 + (1 : Int))), (Option.some.inj h1).symm, lo11, .eq (by kernel_rfl), hO⟩))
        · replace h1 := condF hc13 h1
          refine A_cl (C_exit (id := 4) (by kernel_rfl) (by kernel_rfl) ?_)
          refine E_has (l := [(5, (eL (eInt .i64) places5)), (7, (.msl 1 lo6 0 (List.length values7)))]) (.eq (by kernel_rfl)) ?_
          obtain rfl := Option.some.inj h1
          obtain rfl : _ = rr0 := ho0
          replace h0 : ref09_Norm_j3 places5 values7 = some r := h0
          exact E_done (thenA_exit (thenA_exit (blockA_hit (thenA_normal (⟨rfl, values7, lo6, .eq (by kernel_rfl), hO, h0⟩)))))
    · refine C_seq (by kernel_rfl) ?_
      refine A_cl (C_region ttOk (n := 1) (by kernel_rfl) (by kernel_rfl) ?_)
      refine R_all (Ds := []) (by kernel_rfl) trivial ?_
      refine E_has (l := [(0, (eL e_api_Jump l0)), (5, (.sl true 0 (fun _ => .bad))), (6, (eInt .i64 (0 : Int)))]) (.eq (by kernel_rfl)) ?_
      refine E_done (thenA_normal (?_))
      refine C_block (id := 2) (by kernel_rfl) (by kernel_rfl) ?_
      refine C_has (l := [(0, (eL e_api_Jump l0)), (5, (eL (eInt .i64) ([]))), (6, (eInt .i64 (0 : Int)))]) ⟨[(0, (eL e_api_Jump l0)), (5, (.sl true 0 (fun _ => .bad))), (6, (eInt .i64 (0 : Int)))], by kernel_rfl, rfl, ⟨SubV.refl _, subNilL, SubV.refl _, trivial⟩⟩ ?_
      refine C_cut (fun T H => ∃ places5 : (List Int), ∃ i6 : Int, Has T [(0, (eL e_api_Jump l0)), (5, (eL (eInt .i64) places5)), (6, (eInt .i64 i6))] ∧ Owns ⟨H0, []⟩ H [] ∧ ref09_Norm_h5 l0 places5 i6 = some r) ?_ ⟨[], (0 : Int), .eq (by kernel_rfl), hO, h0⟩
      clear hO h0
      rintro T H ⟨places5, i6, hT, hO, h0⟩
      refine C_has hT ?_
      clear hT
      unfold ref09_Norm_h5 at h0
      obtain ⟨rr0, hl0, h0⟩ := bindE h0
      refine C_loopS (by kernel_rfl) (fun (s : (List Int) × Int) T H => Has T [(0, (eL e_api_Jump l0)), (5, (eL (eInt .i64) s.1)), (6, (eInt .i64 s.2))] ∧ Owns ⟨H0, []⟩ H []) hl0 ⟨.eq (by kernel_rfl), hO⟩ ?_
      clear hO
      rintro k0 s out1 T H ⟨hT, hO⟩ h1 ho0
      obtain ⟨places5, i6⟩ := s
      replace h1 : ref09_Norm_l5 l0 places5 i6 = some out1 := h1
      refine C_has (l := [(0, (eL e_api_Jump l0)), (5, (eL (eInt .i64) places5)), (6, (eInt .i64 i6))]) hT ?_
      clear hT
      unfold ref09_Norm_l5 at h1
      refine C_seq (by kernel_rfl) ?_
      refine C_seq (by kernel_rfl) ?_
      refine A_cl (C_region ttOk (n := 4) (by kernel_rfl) (by kernel_rfl) ?_)
      refine R_all (Ds := []) (by kernel_rfl) trivial ?_
      refine E_has (l := [(0, (eL e_api_Jump l0)), (5, (eL (eInt .i64) places5)), (6, (eInt .i64 i6)), (33, (eBool (decide (i6 < ((List.length l0 : Nat) : Int)))))]) (.eq (by kernel_rfl)) ?_
      refine E_done (thenA_normal (?_))
      refine C_cond (b := decide (i6 < ((List.length l0 : Nat) : Int))) (by kernel_rfl) (by kernel_rfl) (fun hc26 => ?_) (fun hc26 => ?_)
      · replace h1 := condT hc26 h1
        refine A_cl (C_skip (by kernel_rfl) ?_)
        refine E_has (l := [(0, (eL e_api_Jump l0)), (5, (eL (eInt .i64) places5)), (6, (eInt .i64 i6))]) (.eq (by kernel_rfl)) ?_
        refine E_done (thenA_normal (?_))
        refine C_seqJ (by kernel_rfl) (fun T H => ∃ places5 : (List Int), Has T [(0, (eL e_api_Jump l0)), (5, (eL (eInt .i64) places5)), (6, (eInt .i64 i6))] ∧ Owns ⟨H0, []⟩ H [] ∧ ref09_Norm_j6 l0 places5 i6 = some out1) ?_ ?_
        · clear hO h1
          rintro T H ⟨places5, hT, hO, h1⟩
          refine C_has hT ?_
          clear hT
          unfold ref09_Norm_j6 at h1
          refine A_cl (C_region ttOk (n := 3) (by kernel_rfl) (by kernel_rfl) ?_)
          refine R_all (Ds := []) (by kernel_rfl) trivial ?_
          refine E_has (l := [(0, (eL e_api_Jump l0)), (5, (eL (eInt .i64) places5)), (6, (eInt .i64 (IntKind.i64.wrap (i6 + (1 : Int)))))]) (.eq (by kernel_rfl)) ?_
          exact E_done (thenA_normal (⟨rfl, (places5, IntKind.i64.wrap (i6 + (1 : Int))), (Option.some.inj h1).symm, .eq (by kernel_rfl), hO⟩))
        · refine C_block (id := 3) (by kernel_rfl) (by kernel_rfl) ?_
          refine C_seq (by kernel_rfl) ?_
          refine C_seq (by kernel_rfl) ?_
          refine A_cl (C_region ttOk (n := 14) (by kernel_rfl) (by kernel_rfl) ?_)
          obtain ⟨c17, h1⟩ := asrtE h1
          obtain ⟨c18, h1⟩ := asrtE h1
          refine R_all (Ds := [0 ≤ i6 ∧ i6 < ((List.length l0 : Nat) : Int), (((!(decide (((List.getD l0 (Int.toNat i6) default).At) < (-1 : Int))))) = true → 0 ≤ i6 ∧ i6 < ((List.length l0 : Nat) : Int))]) (by kernel_rfl) ⟨c17, c18, trivial⟩ ?_
          refine E_has (l := [(0, (eL e_api_Jump l0)), (5, (eL (eInt .i64) places5)), (6, (eInt .i64 i6)), (49, (eBool ((decide (((List.getD l0 (Int.toNat i6) default).At) < (-1 : Int))) || (decide ((1125899906842624 : Int) < ((List.getD l0 (Int.toNat i6) default).At))))))]) (.eq (by kernel_rfl)) ?_
          refine E_done (thenA_normal (?_))
          refine C_cond (b := (decide (((List.getD l0 (Int.toNat i6) default).At) < (-1 : Int))) || (decide ((1125899906842624 : Int) < ((List.getD l0 (Int.toNat i6) default).At)))) (by kernel_rfl) (by kernel_rfl) (fun hc25 => ?_) (fun hc25 => ?_)
          · replace h1 := condT hc25 h1
            refine C_seq (by kernel_rfl) ?_
            refine A_cl (C_region ttOk (n := 2) (by kernel_rfl) (by kernel_rfl) ?_)
            refine R_all (Ds := []) (by kernel_rfl) trivial ?_
            refine E_has (l := [(2, (.sl true 0 (fun _ => .bad))), (3, (eInt .i64 (13 : Int)))]) (.eq (by kernel_rfl)) ?_
            refine E_done (thenA_normal (?_))
            refine A_cl (C_ret (by kernel_rfl) ?_)
            refine E_has (l := [(2, (eL e_api_Jump ([]))), (3, (eInt .i64 (13 : Int)))]) ⟨[(2, (.sl true 0 (fun _ => .bad))), (3, (eInt .i64 (13 : Int)))], by kernel_rfl, rfl, ⟨subNilL, SubV.refl _, trivial⟩⟩ ?_
            obtain rfl := Option.some.inj h1
            obtain rfl : _ = rr0 := ho0
            replace h0 : some ([], (13 : Int)) = some r := h0
            obtain rfl := Option.some.inj h0
            exact E_done (thenA_ret (blockA_ret (thenA_ret (thenA_ret (blockA_ret (thenA_ret (Q_ret (x := (.tup [(eL e_api_Jump ([])), (eInt .i64 (13 : Int))])) (by kernel_rfl) (SubV.refl _) ⟨rfl, hO.out⟩)))))))
          · replace h1 := condF hc25 h1
            refine A_cl (C_skip (by kernel_rfl) ?_)
            refine E_has (l := [(0, (eL e_api_Jump l0)), (5, (eL (eInt .i64) places5)), (6, (eInt .i64 i6))]) (.eq (by kernel_rfl)) ?_
            refine E_done (thenA_normal (?_))
            refine C_seq (by kernel_rfl) ?_
            refine A_cl (C_region ttOk (n := 6) (by kernel_rfl) (by kernel_rfl) ?_)
            obtain ⟨c19, h1⟩ := asrtE h1
            refine R_all (Ds := [0 ≤ i6 ∧ i6 < ((List.length l0 : Nat) : Int)]) (by kernel_rfl) ⟨c19, trivial⟩ ?_
            refine E_has (l := [(0, (eL e_api_Jump l0)), (5, (eL (eInt .i64) places5)), (6, (eInt .i64 i6)), (55, (eBool (decide (((List.getD l0 (Int.toNat i6) default).At) < (1125899906842624 : Int)))))]) (.eq (by kernel_rfl)) ?_
            refine E_done (thenA_normal (?_))
            refine C_cond (b := decide (((List.getD l0 (Int.toNat i6) default).At) < (1125899906842624 : Int))) (by kernel_rfl) (by kernel_rfl) (fun hc24 => ?_) (fun hc24 => ?_)
            · replace h1 := condT hc24 h1
              refine A_cl (C_region ttOk (n := 8) (by kernel_rfl) (by kernel_rfl) ?_)
              obtain ⟨c20, h1⟩ := asrtE h1
              refine R_pure 6 (by kernel_rfl) (Ds := [0 ≤ i6 ∧ i6 < ((List.length l0 : Nat) : Int)]) (by kernel_rfl) ⟨c20, trivial⟩ ?_
              obtain ⟨x21, hx22, h1⟩ := bindE h1
              refine R_callO [] 40 [(eL (eInt .i64) places5), (eInt .i64 ((List.getD l0 (Int.toNat i6) default).At))] (eL (eInt .i64) x21) true (by kernel_rfl) (by kernel_rfl) (by kernel_rfl) (fun hb23 => (w_ref09_With places5 ((List.getD l0 (Int.toNat i6) default).At) _ hx22)) hO ?_
              intro H hO
              refine R_all (Ds := []) (by kernel_rfl) trivial ?_
              refine E_has (l := [(0, (eL e_api_Jump l0)), (5, (eL (eInt .i64) x21)), (6, (eInt .i64 i6))]) (.eq (by kernel_rfl)) ?_
              exact E_done (blockA_normal (thenA_normal (⟨rfl, x21, .eq (by kernel_rfl), hO, h1⟩)))
            · replace h1 := condF hc24 h1
              refine A_cl (C_skip (by kernel_rfl) ?_)
              refine E_has (l := [(0, (eL e_api_Jump l0)), (5, (eL (eInt .i64) places5)), (6, (eInt .i64 i6))]) (.eq (by kernel_rfl)) ?_
              exact E_done (blockA_normal (thenA_normal (⟨rfl, places5, .eq (by kernel_rfl), hO, h1⟩)))
      · replace h1 := condF hc26 h1
        refine A_cl (C_exit (id := 2) (by kernel_rfl) (by kernel_rfl) ?_)
        refine E_has (l := [(0, (eL e_api_Jump l0)), (5, (eL (eInt .i64) places5))]) (.eq (by kernel_rfl)) ?_
        obtain rfl := Option.some.inj h1
        obtain rfl : _ = rr0 := ho0
        replace h0 : ref09_Norm_j2 l0 places5 = some r := h0
        exact E_done (thenA_exit (thenA_exit (blockA_hit (thenA_normal (⟨rfl, places5, .eq (by kernel_rfl), hO, h0⟩)))))
  · refine C_seq (by kernel_rfl) ?_
    refine A_cl (C_region ttOk (n := 1) (by kernel_rfl) (by kernel_rfl) ?_)
    refine R_all (Ds := []) (by kernel_rfl) trivial ?_
    refine E_has (l := [(0, (eL e_api_Jump l0)), (4, (eInt .i64 (0 : Int)))]) (.eq (by kernel_rfl)) ?_
    refine E_done (thenA_normal (?_))
    refine C_block (id := 0) (by kernel_rfl) (by kernel_rfl) ?_
    refine C_has (l := [(0, (eL e_api_Jump l0)), (4, (eInt .i64 (0 : Int)))]) (.eq (by kernel_rfl)) ?_
    refine C_cut (fun T H => ∃ i4 : Int, Has T [(0, (eL e_api_Jump l0)), (4, (eInt .i64 i4))] ∧ Owns ⟨H0, []⟩ H [] ∧ ref09_Norm_h7 l0 i4 = some r) ?_ ⟨(0 : Int), .eq (by kernel_rfl), hO, h0⟩
    clear hO h0
    rintro T H ⟨i4, hT, hO, h0⟩
    refine C_has hT ?_
    clear hT
    unfold ref09_Norm_h7 at h0
    obtain ⟨rr0, hl0, h0⟩ := bindE h0
    refine C_loopS (by kernel_rfl) (fun (s : Int) T H => Has T [(0, (eL e_api_Jump l0)), (4, (eInt .i64 s))] ∧ Owns ⟨H0, []⟩ H []) hl0 ⟨.eq (by kernel_rfl), hO⟩ ?_
    clear hO
    rintro k0 s out1 T H ⟨hT, hO⟩ h1 ho0
    obtain ⟨i4, rfl⟩ : ∃ x, x = s := ⟨_, rfl⟩
    replace h1 : ref09_Norm_l7 l0 i4 = some out1 := h1
    refine C_has (l := [(0, (eL e_api_Jump l0)), (4, (eInt .i64 i4))]) hT ?_
    clear hT
    unfold ref09_Norm_l7 at h1
    refine C_seq (by kernel_rfl) ?_
    refine C_seq (by kernel_rfl) ?_
    refine A_cl (C_region ttOk (n := 4) (by kernel_rfl) (by kernel_rfl) ?_)
    refine R_all (Ds := []) (by kernel_rfl) trivial ?_
    refine E_has (l := [(0, (eL e_api_Jump l0)), (4, (eInt .i64 i4)), (12, (eBool (decide (i4 < ((List.length l0 : Nat) : Int)))))]) (.eq (by kernel_rfl)) ?_
    refine E_done (thenA_normal (?_))
    refine C_cond (b := decide (i4 < ((List.length l0 : Nat) : Int))) (by kernel_rfl) (by kernel_rfl) (fun hc30 => ?_) (fun hc30 => ?_)
    · replace h1 := condT hc30 h1
      refine A_cl (C_skip (by kernel_rfl) ?_)
      refine E_has (l := [(0, (eL e_api_Jump l0)), (4, (eInt .i64 i4))]) (.eq (by kernel_rfl)) ?_
      refine E_done (thenA_normal (?_))
      refine C_seq (by kernel_rfl) ?_
      refine C_block (id := 1) (by kernel_rfl) (by kernel_rfl) ?_
      refine C_seq (by kernel_rfl) ?_
      refine A_cl (C_region ttOk (n := 14) (by kernel_rfl) (by kernel_rfl) ?_)
      obtain ⟨c27, h1⟩ := asrtE h1
      obtain ⟨c28, h1⟩ := asrtE h1
      refine R_all (Ds := [0 ≤ i4 ∧ i4 < ((List.length l0 : Nat) : Int), (((!(decide ((1048576 : Int) < ((List.getD l0 (Int.toNat i4) default).Net))))) = true → 0 ≤ i4 ∧ i4 < ((List.length l0 : Nat) : Int))]) (by kernel_rfl) ⟨c27, c28, trivial⟩ ?_
      refine E_has (l := [(0, (eL e_api_Jump l0)), (4, (eInt .i64 i4)), (28, (eBool ((decide ((1048576 : Int) < ((List.getD l0 (Int.toNat i4) default).Net))) || (decide (((List.getD l0 (Int.toNat i4) default).Net) < (-1048576 : Int))))))]) (.eq (by kernel_rfl)) ?_
      refine E_done (thenA_normal (?_))
      refine C_cond (b := (decide ((1048576 : Int) < ((List.getD l0 (Int.toNat i4) default).Net))) || (decide (((List.getD l0 (Int.toNat i4) default).Net) < (-1048576 : Int)))) (by kernel_rfl) (by kernel_rfl) (fun hc29 => ?_) (fun hc29 => ?_)
      · replace h1 := condT hc29 h1
        refine C_seq (by kernel_rfl) ?_
        refine A_cl (C_region ttOk (n := 2) (by kernel_rfl) (by kernel_rfl) ?_)
        refine R_all (Ds := []) (by kernel_rfl) trivial ?_
        refine E_has (l := [(2, (.sl true 0 (fun _ => .bad))), (3, (eInt .i64 (2 : Int)))]) (.eq (by kernel_rfl)) ?_
        refine E_done (thenA_normal (?_))
        refine A_cl (C_ret (by kernel_rfl) ?_)
        refine E_has (l := [(2, (eL e_api_Jump ([]))), (3, (eInt .i64 (2 : Int)))]) ⟨[(2, (.sl true 0 (fun _ => .bad))), (3, (eInt .i64 (2 : Int)))], by kernel_rfl, rfl, ⟨subNilL, SubV.refl _, trivial⟩⟩ ?_
        obtain rfl := Option.some.inj h1
        obtain rfl : _ = rr0 := ho0
        replace h0 : some ([], (2 : Int)) = some r := h0
        obtain rfl := Option.some.inj h0
        exact E_done (blockA_ret (thenA_ret (thenA_ret (blockA_ret (thenA_ret (Q_ret (x := (.tup [(eL e_api_Jump ([])), (eInt .i64 (2 : Int))])) (by kernel_rfl) (SubV.refl _) ⟨rfl, hO.out⟩))))))
      · replace h1 := condF hc29 h1
        refine A_cl (C_skip (by kernel_rfl) ?_)
        refine E_has (l := [(0, (eL e_api_Jump l0)), (4, (eInt .i64 i4))]) (.eq (by kernel_rfl)) ?_
        refine E_done (blockA_normal (thenA_normal (?_)))
        refine A_cl (C_region ttOk (n := 3) (by kernel_rfl) (by kernel_rfl) ?_)
        refine R_all (Ds := []) (by kernel_rfl) trivial ?_
        refine E_has (l := [(0, (eL e_api_Jump l0)), (4, (eInt .i64 (IntKind.i64.wrap (i4 + (1 : Int)))))]) (.eq (by kernel_rfl)) ?_
        exact E_done (thenA_normal (⟨rfl, IntKind.i64.wrap (i4 + (1 : Int)), (Option.some.inj h1).symm, .eq (by kernel_rfl), hO⟩))
    · replace h1 := condF hc30 h1
      refine A_cl (C_exit (id := 0) (by kernel_rfl) (by kernel_rfl) ?_)
      refine E_has (l := [(0, (eL e_api_Jump l0))]) (.eq (by kernel_rfl)) ?_
      obtain rfl := Option.some.inj h1
      obtain rfl : _ = rr0 := ho0
      replace h0 : ref09_Norm_j1 l0 = some r := h0
      exact E_done (thenA_exit (thenA_exit (blockA_hit (thenA_normal (⟨rfl, .eq (by kernel_rfl), hO, h0⟩)))))

theorem w_law09_StepNorms (l0 : (List api_Jump)) (r : Bool) (h0 : s_law09_StepNorms l0 = some r) : Fine Try.prog 3 [(eL e_api_Jump l0)] (eBool r) := by
  intro H0
  refine F_walk Try.func3 (by kernel_rfl) (by kernel_rfl) (by kernel_rfl) ?_
  have hO := Owns.start H0
  unfold s_law09_StepNorms at h0
  refine C_seq (by kernel_rfl) ?_
  refine A_cl (C_region ttOk (n := 1) (by kernel_rfl) (by kernel_rfl) ?_)
  refine R_all (Ds := []) (by kernel_rfl) trivial ?_
  refine E_has (l := [(0, (eL e_api_Jump l0))]) (.eq (by kernel_rfl)) ?_
  refine E_done (thenA_normal (?_))
  refine C_seq (by kernel_rfl) ?_
  refine C_seq (by kernel_rfl) ?_
  refine A_cl (C_region ttOk (n := 3) (by kernel_rfl) (by kernel_rfl) ?_)
  refine R_pure 1 (by kernel_rfl) (Ds := []) (by kernel_rfl) trivial ?_
  obtain ⟨x1, hx2, h0⟩ := bindE h0
  refine R_callO [] 10 [(eL e_api_Jump l0)] (eBool x1) true (by kernel_rfl) (by kernel_rfl) (by kernel_rfl) (fun hb3 => (w_law09_few l0 _ hx2)) hO ?_
  intro H hO
  refine R_all (Ds := []) (by kernel_rfl) trivial ?_
  refine E_has (l := [(0, (eL e_api_Jump l0)), (9, (eBool (!x1)))]) (.eq (by kernel_rfl)) ?_
  refine E_done (thenA_normal (?_))
  refine C_cond (b := !x1) (by kernel_rfl) (by kernel_rfl) (fun hc28 => ?_) (fun hc28 => ?_)
  · replace h0 := condT hc28 h0
    refine C_seq (by kernel_rfl) ?_
    refine A_cl (C_region ttOk (n := 2) (by kernel_rfl) (by kernel_rfl) ?_)
    obtain ⟨x4, hx5, h0⟩ := bindE h0
    refine R_callO [] 11 [] (eBool x4) true (by kernel_rfl) (by kernel_rfl) (by kernel_rfl) (fun hb6 => (w_law09_live  _ hx5)) hO ?_
    intro H hO
    refine R_all (Ds := []) (by kernel_rfl) trivial ?_
    refine E_has (l := [(2, (eBool x4))]) (.eq (by kernel_rfl)) ?_
    refine E_done (thenA_normal (?_))
    refine A_cl (C_ret (by kernel_rfl) ?_)
    refine E_has (l := [(2, (eBool x4))]) (.eq (by kernel_rfl)) ?_
    obtain rfl := Option.some.inj h0
    exact E_done (thenA_ret (Q_ret (x := (eBool x4)) (by kernel_rfl) (SubV.refl _) ⟨rfl, hO.out⟩))
  · replace h0 := condF hc28 h0
    refine A_cl (C_skip (by kernel_rfl) ?_)
    refine E_has (l := [(0, (eL e_api_Jump l0))]) (.eq (by kernel_rfl)) ?_
    refine E_done (thenA_normal (?_))
    refine C_seq (by kernel_rfl) ?_
    refine A_cl (C_region ttOk (n := 7) (by kernel_rfl) (by kernel_rfl) ?_)
    refine R_pure 1 (by kernel_rfl) (Ds := []) (by kernel_rfl) trivial ?_
    obtain ⟨x7, hx8, h0⟩ := bindE h0
    refine R_callO [] 12 [(eL e_api_Jump l0)] (.tup [(eL e_api_Jump x7.1), (eInt .i64 x7.2)]) true (by kernel_rfl) (by kernel_rfl) (by kernel_rfl) (fun hb9 => (w_step_Norm l0 _ hx8)) hO ?_
    intro H hO
    refine R_all (Ds := []) (by kernel_rfl) trivial ?_
    refine E_has (l := [(0, (eL e_api_Jump l0)), (3, (eL e_api_Jump x7.1)), (4, (eInt .i64 x7.2))]) (.eq (by kernel_rfl)) ?_
    refine E_done (thenA_normal (?_))
    refine C_seq (by kernel_rfl) ?_
    refine A_cl (C_region ttOk (n := 7) (by kernel_rfl) (by kernel_rfl) ?_)
    refine R_pure 1 (by kernel_rfl) (Ds := []) (by kernel_rfl) trivial ?_
    obtain ⟨x10, hx11, h0⟩ := bindE h0
    refine R_callO [] 13 [(eL e_api_Jump l0)] (.tup [(eL e_api_Jump x10.1), (eInt .i64 x10.2)]) true (by kernel_rfl) (by kernel_rfl) (by kernel_rfl) (fun hb12 => (w_ref09_Norm l0 _ hx11)) hO ?_
    intro H hO
    refine R_all (Ds := []) (by kernel_rfl) trivial ?_
    refine E_has (l := [(0, (eL e_api_Jump l0)), (3, (eL e_api_Jump x7.1)), (4, (eInt .i64 x7.2)), (5, (eL e_api_Jump x10.1)), (6, (eInt .i64 x10.2))]) (.eq (by kernel_rfl)) ?_
    refine E_done (thenA_normal (?_))
    refine C_seq (by kernel_rfl) ?_
    refine A_cl (C_region ttOk (n := 27) (by kernel_rfl) (by kernel_rfl) ?_)
    obtain ⟨x13, hx14, h0⟩ := bindE h0
    refine R_callO [] 11 [] (eBool x13) true (by kernel_rfl) (by kernel_rfl) (by kernel_rfl) (fun hb15 => (w_law09_live  _ hx14)) hO ?_
    intro H hO
    refine R_pure 9 (by kernel_rfl) (Ds := []) (by kernel_rfl) trivial ?_
    obtain ⟨x16, hx17, h0⟩ := bindE h0
    refine R_callO [(27, true)] 14 [(eL e_api_Jump x7.1), (eL e_api_Jump x10.1)] (eBool x16) (x13 && (decide (x7.2 = x10.2))) (by kernel_rfl) (by kernel_rfl) (by kernel_rfl) (fun hb18 => (w_ref09_Same x7.1 x10.1 _ (gcallE hx17 hb18))) hO ?_
    intro H hO
    refine R_pure 16 (by kernel_rfl) (Ds := []) (by kernel_rfl) trivial ?_
    obtain ⟨x19, hx20, h0⟩ := bindE h0
    refine R_callO [(35, false), (32, true)] 15 [(eL e_api_Jump x7.1)] (eBool x19) ((!(!decide (x7.2 = (0 : Int)))) && ((x13 && (decide (x7.2 = x10.2))) && x16)) (by kernel_rfl) (by kernel_rfl) (by kernel_rfl) (fun hb21 => (w_step_May x7.1 _ (gcallE hx20 hb21))) hO ?_
    intro H hO
    refine R_pure 21 (by kernel_rfl) (Ds := []) (by kernel_rfl) trivial ?_
    obtain ⟨x22, hx23, h0⟩ := bindE h0
    refine R_callO [(40, true)] 15 [(eL e_api_Jump l0)] (eBool x22) (((x13 && (decide (x7.2 = x10.2))) && x16) && ((!decide (x7.2 = (0 : Int))) || x19)) (by kernel_rfl) (by kernel_rfl) (by kernel_rfl) (fun hb24 => (w_step_May l0 _ (gcallE hx23 hb24))) hO ?_
    intro H hO
    refine R_pure 23 (by kernel_rfl) (Ds := []) (by kernel_rfl) trivial ?_
    obtain ⟨x25, hx26, h0⟩ := bindE h0
    refine R_callO [(40, true)] 16 [(eL e_api_Jump l0)] (eBool x25) (((x13 && (decide (x7.2 = x10.2))) && x16) && ((!decide (x7.2 = (0 : Int))) || x19)) (by kernel_rfl) (by kernel_rfl) (by kernel_rfl) (fun hb27 => (w_ref09_May l0 _ (gcallE hx26 hb27))) hO ?_
    intro H hO
    refine R_all (Ds := []) (by kernel_rfl) trivial ?_
    refine E_has (l := [(2, (eBool ((((x13 && (decide (x7.2 = x10.2))) && x16) && ((!decide (x7.2 = (0 : Int))) || x19)) && (x22 == x25))))]) (.eq (by kernel_rfl)) ?_
    refine E_done (thenA_normal (?_))
    refine A_cl (C_ret (by kernel_rfl) ?_)
    refine E_has (l := [(2, (eBool ((((x13 && (decide (x7.2 = x10.2))) && x16) && ((!decide (x7.2 = (0 : Int))) || x19)) && (x22 == x25))))]) (.eq (by kernel_rfl)) ?_
    obtain rfl := Option.some.inj h0
    exact E_done (Q_ret (x := (eBool ((((x13 && (decide (x7.2 = x10.2))) && x16) && ((!decide (x7.2 = (0 : Int))) || x19)) && (x22 == x25)))) (by kernel_rfl) (SubV.refl _) ⟨rfl, hO.out⟩)

theorem w_step_Add_1 (a0 : Int) (b1 : Int) (r : Int) (h0 : s_step_Add_1 a0 b1 = some r) : Fine Try.prog 44 [(eInt .i64 a0), (eInt .i64 b1)] (eInt .i64 r) := by
  intro H0
  refine F_walk Try.func44 (by kernel_rfl) (by kernel_rfl) (by kernel_rfl) ?_
  have hO := Owns.start H0
  unfold s_step_Add_1 at h0
  refine C_seq (by kernel_rfl) ?_
  refine A_cl (C_region ttOk (n := 1) (by kernel_rfl) (by kernel_rfl) ?_)
  refine R_all (Ds := []) (by kernel_rfl) trivial ?_
  refine E_has (l := [(0, (eInt .i64 a0)), (1, (eInt .i64 b1))]) (.eq (by kernel_rfl)) ?_
  refine E_done (thenA_normal (?_))
  refine C_seq (by kernel_rfl) ?_
  refine A_cl (C_region ttOk (n := 4) (by kernel_rfl) (by kernel_rfl) ?_)
  refine R_all (Ds := []) (by kernel_rfl) trivial ?_
  refine E_has (l := [(4, (eInt .i64 (IntKind.i64.wrap (a0 + b1))))]) (.eq (by kernel_rfl)) ?_
  refine E_done (thenA_normal (?_))
  refine A_cl (C_ret (by kernel_rfl) ?_)
  refine E_has (l := [(4, (eInt .i64 (IntKind.i64.wrap (a0 + b1))))]) (.eq (by kernel_rfl)) ?_
  obtain rfl := Option.some.inj h0
  exact E_done (Q_ret (x := (eInt .i64 (IntKind.i64.wrap (a0 + b1)))) (by kernel_rfl) (SubV.refl _) ⟨rfl, hO.out⟩)

theorem w_step_Add (f0 : (List api_Jump)) (g1 : (List api_Jump)) (r : ((List api_Jump) × Int)) (h0 : s_step_Add f0 g1 = some r) : Fine Try.prog 17 [(eL e_api_Jump f0), (eL e_api_Jump g1)] (.tup [(eL e_api_Jump r.1), (eInt .i64 r.2)]) := by
  intro H0
  refine F_walk Try.func17 (by kernel_rfl) (by kernel_rfl) (by kernel_rfl) ?_
  have hO := Owns.start H0
  unfold s_step_Add at h0
  refine C_seq (by kernel_rfl) ?_
  refine A_cl (C_region ttOk (n := 2) (by kernel_rfl) (by kernel_rfl) ?_)
  refine R_all (Ds := []) (by kernel_rfl) trivial ?_
  refine E_has (l := [(0, (eL e_api_Jump f0)), (1, (eL e_api_Jump g1))]) (.eq (by kernel_rfl)) ?_
  refine E_done (thenA_normal (?_))
  refine C_seq (by kernel_rfl) ?_
  refine A_cl (C_region ttOk (n := 7) (by kernel_rfl) (by kernel_rfl) ?_)
  refine R_pure 2 (by kernel_rfl) (Ds := []) (by kernel_rfl) trivial ?_
  obtain ⟨x1, hx2, h0⟩ := bindE h0
  refine R_callO [] 43 [(eL e_api_Jump f0), (eL e_api_Jump g1), (.fn (.func 44) [] [])] (.tup [(eL e_api_Jump x1.1), (eInt .i64 x1.2)]) true (by kernel_rfl) (by kernel_rfl) (by kernel_rfl) (fun hb3 => (w_step_both f0 g1 44 [] [] (fun y0 y1 => s_step_Add_1 y0 y1) (fun y0 y1 r h => w_step_Add_1 y0 y1 r h) _ hx2)) hO ?_
  intro H hO
  refine R_all (Ds := []) (by kernel_rfl) trivial ?_
  refine E_has (l := [(4, (eL e_api_Jump x1.1)), (5, (eInt .i64 x1.2))]) (.eq (by kernel_rfl)) ?_
  refine E_done (thenA_normal (?_))
  refine A_cl (C_ret (by kernel_rfl) ?_)
  refine E_has (l := [(4, (eL e_api_Jump x1.1)), (5, (eInt .i64 x1.2))]) (.eq (by kernel_rfl)) ?_
  obtain rfl := Option.some.inj h0
  exact E_done (Q_ret (x := (.tup [(eL e_api_Jump x1.1), (eInt .i64 x1.2)])) (by kernel_rfl) (SubV.refl _) ⟨rfl, hO.out⟩)

theorem w_law09_StepPoints (f0 : (List api_Jump)) (g1 : (List api_Jump)) (t2 : Int) (r : Bool) (h0 : s_law09_StepPoints f0 g1 t2 = some r) : Fine Try.prog 4 [(eL e_api_Jump f0), (eL e_api_Jump g1), (eInt .i64 t2)] (eBool r) := by
  intro H0
  refine F_walk Try.func4 (by kernel_rfl) (by kernel_rfl) (by kernel_rfl) ?_
  have hO := Owns.start H0
  unfold s_law09_StepPoints at h0
  refine C_seq (by kernel_rfl) ?_
  refine A_cl (C_region ttOk (n := 1) (by kernel_rfl) (by kernel_rfl) ?_)
  refine R_all (Ds := []) (by kernel_rfl) trivial ?_
  refine E_has (l := [(0, (eL e_api_Jump f0)), (1, (eL e_api_Jump g1)), (2, (eInt .i64 t2))]) (.eq (by kernel_rfl)) ?_
  refine E_done (thenA_normal (?_))
  refine C_seq (by kernel_rfl) ?_
  refine C_seq (by kernel_rfl) ?_
  refine A_cl (C_region ttOk (n := 8) (by kernel_rfl) (by kernel_rfl) ?_)
  refine R_pure 1 (by kernel_rfl) (Ds := []) (by kernel_rfl) trivial ?_
  obtain ⟨x1, hx2, h0⟩ := bindE h0
  refine R_callO [] 15 [(eL e_api_Jump f0)] (eBool x1) true (by kernel_rfl) (by kernel_rfl) (by kernel_rfl) (fun hb3 => (w_step_May f0 _ hx2)) hO ?_
  intro H hO
  refine R_pure 5 (by kernel_rfl) (Ds := []) (by kernel_rfl) trivial ?_
  obtain ⟨x4, hx5, h0⟩ := bindE h0
  refine R_callO [(16, false)] 15 [(eL e_api_Jump g1)] (eBool x4) (!(!x1)) (by kernel_rfl) (by kernel_rfl) (by kernel_rfl) (fun hb6 => (w_step_May g1 _ (gcallE hx5 hb6))) hO ?_
  intro H hO
  refine R_all (Ds := []) (by kernel_rfl) trivial ?_
  refine E_has (l := [(0, (eL e_api_Jump f0)), (1, (eL e_api_Jump g1)), (2, (eInt .i64 t2)), (20, (eBool ((!x1) || (!x4))))]) (.eq (by kernel_rfl)) ?_
  refine E_done (thenA_normal (?_))
  refine C_cond (b := (!x1) || (!x4)) (by kernel_rfl) (by kernel_rfl) (fun hc32 => ?_) (fun hc32 => ?_)
  · replace h0 := condT hc32 h0
    refine C_seq (by kernel_rfl) ?_
    refine A_cl (C_region ttOk (n := 2) (by kernel_rfl) (by kernel_rfl) ?_)
    obtain ⟨x7, hx8, h0⟩ := bindE h0
    refine R_callO [] 11 [] (eBool x7) true (by kernel_rfl) (by kernel_rfl) (by kernel_rfl) (fun hb9 => (w_law09_live  _ hx8)) hO ?_
    intro H hO
    refine R_all (Ds := []) (by kernel_rfl) trivial ?_
    refine E_has (l := [(6, (eBool x7))]) (.eq (by kernel_rfl)) ?_
    refine E_done (thenA_normal (?_))
    refine A_cl (C_ret (by kernel_rfl) ?_)
    refine E_has (l := [(6, (eBool x7))]) (.eq (by kernel_rfl)) ?_
    obtain rfl := Option.some.inj h0
    exact E_done (thenA_ret (Q_ret (x := (eBool x7)) (by kernel_rfl) (SubV.refl _) ⟨rfl, hO.out⟩))
  · replace h0 := condF hc32 h0
    refine A_cl (C_skip (by kernel_rfl) ?_)
    refine E_has (l := [(0, (eL e_api_Jump f0)), (1, (eL e_api_Jump g1)), (2, (eInt .i64 t2))]) (.eq (by kernel_rfl)) ?_
    refine E_done (thenA_normal (?_))
    refine C_seq (by kernel_rfl) ?_
    refine A_cl (C_region ttOk (n := 8) (by kernel_rfl) (by kernel_rfl) ?_)
    refine R_pure 2 (by kernel_rfl) (Ds := []) (by kernel_rfl) trivial ?_
    obtain ⟨x10, hx11, h0⟩ := bindE h0
    refine R_callO [] 17 [(eL e_api_Jump f0), (eL e_api_Jump g1)] (.tup [(eL e_api_Jump x10.1), (eInt .i64 x10.2)]) true (by kernel_rfl) (by kernel_rfl) (by kernel_rfl) (fun hb12 => (w_step_Add f0 g1 _ hx11)) hO ?_
    intro H hO
    refine R_all (Ds := []) (by kernel_rfl) trivial ?_
    refine E_has (l := [(0, (eL e_api_Jump f0)), (1, (eL e_api_Jump g1)), (2, (eInt .i64 t2)), (7, (eL e_api_Jump x10.1)), (8, (eInt .i64 x10.2))]) (.eq (by kernel_rfl)) ?_
    refine E_done (thenA_normal (?_))
    refine C_seq (by kernel_rfl) ?_
    refine A_cl (C_region ttOk (n := 8) (by kernel_rfl) (by kernel_rfl) ?_)
    refine R_pure 2 (by kernel_rfl) (Ds := []) (by kernel_rfl) trivial ?_
    obtain ⟨x13, hx14, h0⟩ := bindE h0
    refine R_callO [] 18 [(eL e_api_Jump f0), (eL e_api_Jump g1)] (.tup [(eL e_api_Jump x13.1), (eInt .i64 x13.2)]) true (by kernel_rfl) (by kernel_rfl) (by kernel_rfl) (fun hb15 => (w_step_Mul f0 g1 _ hx14)) hO ?_
    intro H hO
    refine R_all (Ds := []) (by kernel_rfl) trivial ?_
    refine E_has (l := [(0, (eL e_api_Jump f0)), (1, (eL e_api_Jump g1)), (2, (eInt .i64 t2)), (7, (eL e_api_Jump x10.1)), (8, (eInt .i64 x10.2)), (9, (eL e_api_Jump x13.1)), (10, (eInt .i64 x13.2))]) (.eq (by kernel_rfl)) ?_
    refine E_done (thenA_normal (?_))
    refine C_seq (by kernel_rfl) ?_
    refine A_cl (C_region ttOk (n := 4) (by kernel_rfl) (by kernel_rfl) ?_)
    refine R_pure 2 (by kernel_rfl) (Ds := []) (by kernel_rfl) trivial ?_
    obtain ⟨x16, hx17, h0⟩ := bindE h0
    refine R_callO [] 19 [(eL e_api_Jump f0), (eInt .i64 t2)] (eInt .i64 x16) true (by kernel_rfl) (by kernel_rfl) (by kernel_rfl) (fun hb18 => (w_step_At f0 t2 _ hx17)) hO ?_
    intro H hO
    refine R_all (Ds := []) (by kernel_rfl) trivial ?_
    refine E_has (l := [(1, (eL e_api_Jump g1)), (2, (eInt .i64 t2)), (7, (eL e_api_Jump x10.1)), (8, (eInt .i64 x10.2)), (9, (eL e_api_Jump x13.1)), (10, (eInt .i64 x13.2)), (11, (eInt .i64 x16))]) (.eq (by kernel_rfl)) ?_
    refine E_done (thenA_normal (?_))
    refine C_seq (by kernel_rfl) ?_
    refine A_cl (C_region ttOk (n := 4) (by kernel_rfl) (by kernel_rfl) ?_)
    refine R_pure 2 (by kernel_rfl) (Ds := []) (by kernel_rfl) trivial ?_
    obtain ⟨x19, hx20, h0⟩ := bindE h0
    refine R_callO [] 19 [(eL e_api_Jump g1), (eInt .i64 t2)] (eInt .i64 x19) true (by kernel_rfl) (by kernel_rfl) (by kernel_rfl) (fun hb21 => (w_step_At g1 t2 _ hx20)) hO ?_
    intro H hO
    refine R_all (Ds := []) (by kernel_rfl) trivial ?_
    refine E_has (l := [(2, (eInt .i64 t2)), (7, (eL e_api_Jump x10.1)), (8, (eInt .i64 x10.2)), (9, (eL e_api_Jump x13.1)), (10, (eInt .i64 x13.2)), (11, (eInt .i64 x16)), (12, (eInt .i64 x19))]) (.eq (by kernel_rfl)) ?_
    refine E_done (thenA_normal (?_))
    refine C_seq (by kernel_rfl) ?_
    refine C_seq (by kernel_rfl) ?_
    refine A_cl (C_region ttOk (n := 24) (by kernel_rfl) (by kernel_rfl) ?_)
    refine R_pure 5 (by kernel_rfl) (Ds := []) (by kernel_rfl) trivial ?_
    obtain ⟨x22, hx23, h0⟩ := bindE h0
    refine R_callO [(42, true)] 19 [(eL e_api_Jump x10.1), (eInt .i64 t2)] (eInt .i64 x22) (decide (x10.2 = (0 : Int))) (by kernel_rfl) (by kernel_rfl) (by kernel_rfl) (fun hb24 => (w_step_At x10.1 t2 _ (gcallE hx23 hb24))) hO ?_
    intro H hO
    refine R_pure 17 (by kernel_rfl) (Ds := []) (by kernel_rfl) trivial ?_
    obtain ⟨x25, hx26, h0⟩ := bindE h0
    refine R_callO [(54, true), (51, false)] 19 [(eL e_api_Jump x13.1), (eInt .i64 t2)] (eInt .i64 x25) ((decide (x13.2 = (0 : Int))) && (!((decide (x10.2 = (0 : Int))) && (!decide (x22 = (IntKind.i64.wrap (x16 + x19))))))) (by kernel_rfl) (by kernel_rfl) (by kernel_rfl) (fun hb27 => (w_step_At x13.1 t2 _ (gcallE hx26 hb27))) hO ?_
    intro H hO
    refine R_all (Ds := []) (by kernel_rfl) trivial ?_
    refine E_has (l := [(8, (eInt .i64 x10.2)), (10, (eInt .i64 x13.2)), (63, (eBool (((decide (x10.2 = (0 : Int))) && (!decide (x22 = (IntKind.i64.wrap (x16 + x19))))) || ((decide (x13.2 = (0 : Int))) && (!decide (x25 = (IntKind.i64.wrap (x16 * x19))))))))]) (.eq (by kernel_rfl)) ?_
    refine E_done (thenA_normal (?_))
    refine C_cond (b := ((decide (x10.2 = (0 : Int))) && (!decide (x22 = (IntKind.i64.wrap (x16 + x19))))) || ((decide (x13.2 = (0 : Int))) && (!decide (x25 = (IntKind.i64.wrap (x16 * x19)))))) (by kernel_rfl) (by kernel_rfl) (fun hc31 => ?_) (fun hc31 => ?_)
    · replace h0 := condT hc31 h0
      refine C_seq (by kernel_rfl) ?_
      refine A_cl (C_region ttOk (n := 1) (by kernel_rfl) (by kernel_rfl) ?_)
      refine R_all (Ds := []) (by kernel_rfl) trivial ?_
      refine E_has (l := [(6, (eBool false))]) (.eq (by kernel_rfl)) ?_
      refine E_done (thenA_normal (?_))
      refine A_cl (C_ret (by kernel_rfl) ?_)
      refine E_has (l := [(6, (eBool false))]) (.eq (by kernel_rfl)) ?_
      obtain rfl := Option.some.inj h0
      exact E_done (thenA_ret (Q_ret (x := (eBool false)) (by kernel_rfl) (SubV.refl _) ⟨rfl, hO.out⟩))
    · replace h0 := condF hc31 h0
      refine A_cl (C_skip (by kernel_rfl) ?_)
      refine E_has (l := [(8, (eInt .i64 x10.2)), (10, (eInt .i64 x13.2))]) (.eq (by kernel_rfl)) ?_
      refine E_done (thenA_normal (?_))
      refine C_seq (by kernel_rfl) ?_
      refine A_cl (C_region ttOk (n := 18) (by kernel_rfl) (by kernel_rfl) ?_)
      obtain ⟨x28, hx29, h0⟩ := bindE h0
      refine R_callO [] 11 [] (eBool x28) true (by kernel_rfl) (by kernel_rfl) (by kernel_rfl) (fun hb30 => (w_law09_live  _ hx29)) hO ?_
      intro H hO
      refine R_all (Ds := []) (by kernel_rfl) trivial ?_
      refine E_has (l := [(6, (eBool ((x28 && ((decide (x10.2 = (0 : Int))) || (decide (x10.2 = (7 : Int))))) && ((decide (x13.2 = (0 : Int))) || (decide (x13.2 = (7 : Int)))))))]) (.eq (by kernel_rfl)) ?_
      refine E_done (thenA_normal (?_))
      refine A_cl (C_ret (by kernel_rfl) ?_)
      refine E_has (l := [(6, (eBool ((x28 && ((decide (x10.2 = (0 : Int))) || (decide (x10.2 = (7 : Int))))) && ((decide (x13.2 = (0 : Int))) || (decide (x13.2 = (7 : Int)))))))]) (.eq (by kernel_rfl)) ?_
      obtain rfl := Option.some.inj h0
      exact E_done (Q_ret (x := (eBool ((x28 && ((decide (x10.2 = (0 : Int))) || (decide (x10.2 = (7 : Int))))) && ((decide (x13.2 = (0 : Int))) || (decide (x13.2 = (7 : Int))))))) (by kernel_rfl) (SubV.refl _) ⟨rfl, hO.out⟩)

theorem w_law09_StepRing (f0 : (List api_Jump)) (g1 : (List api_Jump)) (h2 : (List api_Jump)) (r : Bool) (h0 : s_law09_StepRing f0 g1 h2 = some r) : Fine Try.prog 5 [(eL e_api_Jump f0), (eL e_api_Jump g1), (eL e_api_Jump h2)] (eBool r) := by
  intro H0
  refine F_walk Try.func5 (by kernel_rfl) (by kernel_rfl) (by kernel_rfl) ?_
  have hO := Owns.start H0
  unfold s_law09_StepRing at h0
  refine C_seq (by kernel_rfl) ?_
  refine A_cl (C_region ttOk (n := 1) (by kernel_rfl) (by kernel_rfl) ?_)
  refine R_all (Ds := []) (by kernel_rfl) trivial ?_
  refine E_has (l := [(0, (eL e_api_Jump f0)), (1, (eL e_api_Jump g1)), (2, (eL e_api_Jump h2))]) (.eq (by kernel_rfl)) ?_
  refine E_done (thenA_normal (?_))
  refine C_seq (by kernel_rfl) ?_
  refine A_cl (C_region ttOk (n := 8) (by kernel_rfl) (by kernel_rfl) ?_)
  refine R_pure 2 (by kernel_rfl) (Ds := []) (by kernel_rfl) trivial ?_
  obtain ⟨x1, hx2, h0⟩ := bindE h0
  refine R_callO [] 17 [(eL e_api_Jump f0), (eL e_api_Jump g1)] (.tup [(eL e_api_Jump x1.1), (eInt .i64 x1.2)]) true (by kernel_rfl) (by kernel_rfl) (by kernel_rfl) (fun hb3 => (w_step_Add f0 g1 _ hx2)) hO ?_
  intro H hO
  refine R_all (Ds := []) (by kernel_rfl) trivial ?_
  refine E_has (l := [(0, (eL e_api_Jump f0)), (1, (eL e_api_Jump g1)), (2, (eL e_api_Jump h2)), (7, (eL e_api_Jump x1.1)), (8, (eInt .i64 x1.2))]) (.eq (by kernel_rfl)) ?_
  refine E_done (thenA_normal (?_))
  refine C_seq (by kernel_rfl) ?_
  refine A_cl (C_region ttOk (n := 8) (by kernel_rfl) (by kernel_rfl) ?_)
  refine R_pure 2 (by kernel_rfl) (Ds := []) (by kernel_rfl) trivial ?_
  obtain ⟨x4, hx5, h0⟩ := bindE h0
  refine R_callO [] 17 [(eL e_api_Jump g1), (eL e_api_Jump f0)] (.tup [(eL e_api_Jump x4.1), (eInt .i64 x4.2)]) true (by kernel_rfl) (by kernel_rfl) (by kernel_rfl) (fun hb6 => (w_step_Add g1 f0 _ hx5)) hO ?_
  intro H hO
  refine R_all (Ds := []) (by kernel_rfl) trivial ?_
  refine E_has (l := [(0, (eL e_api_Jump f0)), (1, (eL e_api_Jump g1)), (2, (eL e_api_Jump h2)), (7, (eL e_api_Jump x1.1)), (8, (eInt .i64 x1.2)), (9, (eL e_api_Jump x4.1)), (10, (eInt .i64 x4.2))]) (.eq (by kernel_rfl)) ?_
  refine E_done (thenA_normal (?_))
  refine C_seq (by kernel_rfl) ?_
  refine A_cl (C_region ttOk (n := 8) (by kernel_rfl) (by kernel_rfl) ?_)
  refine R_pure 2 (by kernel_rfl) (Ds := []) (by kernel_rfl) trivial ?_
  obtain ⟨x7, hx8, h0⟩ := bindE h0
  refine R_callO [] 18 [(eL e_api_Jump f0), (eL e_api_Jump g1)] (.tup [(eL e_api_Jump x7.1), (eInt .i64 x7.2)]) true (by kernel_rfl) (by kernel_rfl) (by kernel_rfl) (fun hb9 => (w_step_Mul f0 g1 _ hx8)) hO ?_
  intro H hO
  refine R_all (Ds := []) (by kernel_rfl) trivial ?_
  refine E_has (l := [(0, (eL e_api_Jump f0)), (1, (eL e_api_Jump g1)), (2, (eL e_api_Jump h2)), (7, (eL e_api_Jump x1.1)), (8, (eInt .i64 x1.2)), (9, (eL e_api_Jump x4.1)), (10, (eInt .i64 x4.2)), (11, (eL e_api_Jump x7.1)), (12, (eInt .i64 x7.2))]) (.eq (by kernel_rfl)) ?_
  refine E_done (thenA_normal (?_))
  refine C_seq (by kernel_rfl) ?_
  refine A_cl (C_region ttOk (n := 8) (by kernel_rfl) (by kernel_rfl) ?_)
  refine R_pure 2 (by kernel_rfl) (Ds := []) (by kernel_rfl) trivial ?_
  obtain ⟨x10, hx11, h0⟩ := bindE h0
  refine R_callO [] 18 [(eL e_api_Jump g1), (eL e_api_Jump f0)] (.tup [(eL e_api_Jump x10.1), (eInt .i64 x10.2)]) true (by kernel_rfl) (by kernel_rfl) (by kernel_rfl) (fun hb12 => (w_step_Mul g1 f0 _ hx11)) hO ?_
  intro H hO
  refine R_all (Ds := []) (by kernel_rfl) trivial ?_
  refine E_has (l := [(0, (eL e_api_Jump f0)), (1, (eL e_api_Jump g1)), (2, (eL e_api_Jump h2)), (7, (eL e_api_Jump x1.1)), (8, (eInt .i64 x1.2)), (9, (eL e_api_Jump x4.1)), (10, (eInt .i64 x4.2)), (11, (eL e_api_Jump x7.1)), (12, (eInt .i64 x7.2)), (13, (eL e_api_Jump x10.1)), (14, (eInt .i64 x10.2))]) (.eq (by kernel_rfl)) ?_
  refine E_done (thenA_normal (?_))
  refine C_seq (by kernel_rfl) ?_
  refine C_seq (by kernel_rfl) ?_
  refine A_cl (C_region ttOk (n := 20) (by kernel_rfl) (by kernel_rfl) ?_)
  refine R_pure 6 (by kernel_rfl) (Ds := []) (by kernel_rfl) trivial ?_
  obtain ⟨x13, hx14, h0⟩ := bindE h0
  refine R_callO [(54, false)] 14 [(eL e_api_Jump x1.1), (eL e_api_Jump x4.1)] (eBool x13) (!(!decide (x1.2 = x4.2))) (by kernel_rfl) (by kernel_rfl) (by kernel_rfl) (fun hb15 => (w_ref09_Same x1.1 x4.1 _ (gcallE hx14 hb15))) hO ?_
  intro H hO
  refine R_pure 17 (by kernel_rfl) (Ds := []) (by kernel_rfl) trivial ?_
  obtain ⟨x16, hx17, h0⟩ := bindE h0
  refine R_callO [(65, false)] 14 [(eL e_api_Jump x7.1), (eL e_api_Jump x10.1)] (eBool x16) (!(((!decide (x1.2 = x4.2)) || (!x13)) || (!decide (x7.2 = x10.2)))) (by kernel_rfl) (by kernel_rfl) (by kernel_rfl) (fun hb18 => (w_ref09_Same x7.1 x10.1 _ (gcallE hx17 hb18))) hO ?_
  intro H hO
  refine R_all (Ds := []) (by kernel_rfl) trivial ?_
  refine E_has (l := [(0, (eL e_api_Jump f0)), (1, (eL e_api_Jump g1)), (2, (eL e_api_Jump h2)), (7, (eL e_api_Jump x1.1)), (8, (eInt .i64 x1.2)), (11, (eL e_api_Jump x7.1)), (12, (eInt .i64 x7.2)), (70, (eBool ((((!decide (x1.2 = x4.2)) || (!x13)) || (!decide (x7.2 = x10.2))) || (!x16))))]) (.eq (by kernel_rfl)) ?_
  refine E_done (thenA_normal (?_))
  refine C_cond (b := (((!decide (x1.2 = x4.2)) || (!x13)) || (!decide (x7.2 = x10.2))) || (!x16)) (by kernel_rfl) (by kernel_rfl) (fun hc51 => ?_) (fun hc51 => ?_)
  · replace h0 := condT hc51 h0
    refine C_seq (by kernel_rfl) ?_
    refine A_cl (C_region ttOk (n := 1) (by kernel_rfl) (by kernel_rfl) ?_)
    refine R_all (Ds := []) (by kernel_rfl) trivial ?_
    refine E_has (l := [(6, (eBool false))]) (.eq (by kernel_rfl)) ?_
    refine E_done (thenA_normal (?_))
    refine A_cl (C_ret (by kernel_rfl) ?_)
    refine E_has (l := [(6, (eBool false))]) (.eq (by kernel_rfl)) ?_
    obtain rfl := Option.some.inj h0
    exact E_done (thenA_ret (Q_ret (x := (eBool false)) (by kernel_rfl) (SubV.refl _) ⟨rfl, hO.out⟩))
  · replace h0 := condF hc51 h0
    refine A_cl (C_skip (by kernel_rfl) ?_)
    refine E_has (l := [(0, (eL e_api_Jump f0)), (1, (eL e_api_Jump g1)), (2, (eL e_api_Jump h2)), (7, (eL e_api_Jump x1.1)), (8, (eInt .i64 x1.2)), (11, (eL e_api_Jump x7.1)), (12, (eInt .i64 x7.2))]) (.eq (by kernel_rfl)) ?_
    refine E_done (thenA_normal (?_))
    refine C_seq (by kernel_rfl) ?_
    refine A_cl (C_region ttOk (n := 8) (by kernel_rfl) (by kernel_rfl) ?_)
    refine R_pure 2 (by kernel_rfl) (Ds := []) (by kernel_rfl) trivial ?_
    obtain ⟨x19, hx20, h0⟩ := bindE h0
    refine R_callO [] 17 [(eL e_api_Jump g1), (eL e_api_Jump h2)] (.tup [(eL e_api_Jump x19.1), (eInt .i64 x19.2)]) true (by kernel_rfl) (by kernel_rfl) (by kernel_rfl) (fun hb21 => (w_step_Add g1 h2 _ hx20)) hO ?_
    intro H hO
    refine R_all (Ds := []) (by kernel_rfl) trivial ?_
    refine E_has (l := [(0, (eL e_api_Jump f0)), (2, (eL e_api_Jump h2)), (7, (eL e_api_Jump x1.1)), (8, (eInt .i64 x1.2)), (11, (eL e_api_Jump x7.1)), (12, (eInt .i64 x7.2)), (15, (eL e_api_Jump x19.1)), (16, (eInt .i64 x19.2))]) (.eq (by kernel_rfl)) ?_
    refine E_done (thenA_normal (?_))
    refine C_seq (by kernel_rfl) ?_
    refine A_cl (C_region ttOk (n := 8) (by kernel_rfl) (by kernel_rfl) ?_)
    refine R_pure 2 (by kernel_rfl) (Ds := []) (by kernel_rfl) trivial ?_
    obtain ⟨x22, hx23, h0⟩ := bindE h0
    refine R_callO [] 17 [(eL e_api_Jump x1.1), (eL e_api_Jump h2)] (.tup [(eL e_api_Jump x22.1), (eInt .i64 x22.2)]) true (by kernel_rfl) (by kernel_rfl) (by kernel_rfl) (fun hb24 => (w_step_Add x1.1 h2 _ hx23)) hO ?_
    intro H hO
    refine R_all (Ds := []) (by kernel_rfl) trivial ?_
    refine E_has (l := [(0, (eL e_api_Jump f0)), (2, (eL e_api_Jump h2)), (8, (eInt .i64 x1.2)), (11, (eL e_api_Jump x7.1)), (12, (eInt .i64 x7.2)), (15, (eL e_api_Jump x19.1)), (16, (eInt .i64 x19.2)), (17, (eL e_api_Jump x22.1)), (18, (eInt .i64 x22.2))]) (.eq (by kernel_rfl)) ?_
    refine E_done (thenA_normal (?_))
    refine C_seq (by kernel_rfl) ?_
    refine A_cl (C_region ttOk (n := 8) (by kernel_rfl) (by kernel_rfl) ?_)
    refine R_pure 2 (by kernel_rfl) (Ds := []) (by kernel_rfl) trivial ?_
    obtain ⟨x25, hx26, h0⟩ := bindE h0
    refine R_callO [] 17 [(eL e_api_Jump f0), (eL e_api_Jump x19.1)] (.tup [(eL e_api_Jump x25.1), (eInt .i64 x25.2)]) true (by kernel_rfl) (by kernel_rfl) (by kernel_rfl) (fun hb27 => (w_step_Add f0 x19.1 _ hx26)) hO ?_
    intro H hO
    refine R_all (Ds := []) (by kernel_rfl) trivial ?_
    refine E_has (l := [(0, (eL e_api_Jump f0)), (2, (eL e_api_Jump h2)), (8, (eInt .i64 x1.2)), (11, (eL e_api_Jump x7.1)), (12, (eInt .i64 x7.2)), (15, (eL e_api_Jump x19.1)), (16, (eInt .i64 x19.2)), (17, (eL e_api_Jump x22.1)), (18, (eInt .i64 x22.2)), (19, (eL e_api_Jump x25.1)), (20, (eInt .i64 x25.2))]) (.eq (by kernel_rfl)) ?_
    refine E_done (thenA_normal (?_))
    refine C_seq (by kernel_rfl) ?_
    refine C_seq (by kernel_rfl) ?_
    refine A_cl (C_region ttOk (n := 17) (by kernel_rfl) (by kernel_rfl) ?_)
    refine R_pure 13 (by kernel_rfl) (Ds := []) (by kernel_rfl) trivial ?_
    obtain ⟨x28, hx29, h0⟩ := bindE h0
    refine R_callO [(99, false), (95, true)] 14 [(eL e_api_Jump x22.1), (eL e_api_Jump x25.1)] (eBool x28) ((!(!decide (x22.2 = x25.2))) && ((decide (x1.2 = (0 : Int))) && (decide (x19.2 = (0 : Int))))) (by kernel_rfl) (by kernel_rfl) (by kernel_rfl) (fun hb30 => (w_ref09_Same x22.1 x25.1 _ (gcallE hx29 hb30))) hO ?_
    intro H hO
    refine R_all (Ds := []) (by kernel_rfl) trivial ?_
    refine E_has (l := [(0, (eL e_api_Jump f0)), (2, (eL e_api_Jump h2)), (11, (eL e_api_Jump x7.1)), (12, (eInt .i64 x7.2)), (15, (eL e_api_Jump x19.1)), (16, (eInt .i64 x19.2)), (105, (eBool (((decide (x1.2 = (0 : Int))) && (decide (x19.2 = (0 : Int)))) && ((!decide (x22.2 = x25.2)) || (!x28)))))]) (.eq (by kernel_rfl)) ?_
    refine E_done (thenA_normal (?_))
    refine C_cond (b := ((decide (x1.2 = (0 : Int))) && (decide (x19.2 = (0 : Int)))) && ((!decide (x22.2 = x25.2)) || (!x28))) (by kernel_rfl) (by kernel_rfl) (fun hc50 => ?_) (fun hc50 => ?_)
    · replace h0 := condT hc50 h0
      refine C_seq (by kernel_rfl) ?_
      refine A_cl (C_region ttOk (n := 1) (by kernel_rfl) (by kernel_rfl) ?_)
      refine R_all (Ds := []) (by kernel_rfl) trivial ?_
      refine E_has (l := [(6, (eBool false))]) (.eq (by kernel_rfl)) ?_
      refine E_done (thenA_normal (?_))
      refine A_cl (C_ret (by kernel_rfl) ?_)
      refine E_has (l := [(6, (eBool false))]) (.eq (by kernel_rfl)) ?_
      obtain rfl := Option.some.inj h0
      exact E_done (thenA_ret (Q_ret (x := (eBool false)) (by kernel_rfl) (SubV.refl _) ⟨rfl, hO.out⟩))
    · replace h0 := condF hc50 h0
      refine A_cl (C_skip (by kernel_rfl) ?_)
      refine E_has (l := [(0, (eL e_api_Jump f0)), (2, (eL e_api_Jump h2)), (11, (eL e_api_Jump x7.1)), (12, (eInt .i64 x7.2)), (15, (eL e_api_Jump x19.1)), (16, (eInt .i64 x19.2))]) (.eq (by kernel_rfl)) ?_
      refine E_done (thenA_normal (?_))
      refine C_seq (by kernel_rfl) ?_
      refine A_cl (C_region ttOk (n := 8) (by kernel_rfl) (by kernel_rfl) ?_)
      refine R_pure 2 (by kernel_rfl) (Ds := []) (by kernel_rfl) trivial ?_
      obtain ⟨x31, hx32, h0⟩ := bindE h0
      refine R_callO [] 18 [(eL e_api_Jump f0), (eL e_api_Jump h2)] (.tup [(eL e_api_Jump x31.1), (eInt .i64 x31.2)]) true (by kernel_rfl) (by kernel_rfl) (by kernel_rfl) (fun hb33 => (w_step_Mul f0 h2 _ hx32)) hO ?_
      intro H hO
      refine R_all (Ds := []) (by kernel_rfl) trivial ?_
      refine E_has (l := [(0, (eL e_api_Jump f0)), (11, (eL e_api_Jump x7.1)), (12, (eInt .i64 x7.2)), (15, (eL e_api_Jump x19.1)), (16, (eInt .i64 x19.2)), (21, (eL e_api_Jump x31.1)), (22, (eInt .i64 x31.2))]) (.eq (by kernel_rfl)) ?_
      refine E_done (thenA_normal (?_))
      refine C_seq (by kernel_rfl) ?_
      refine A_cl (C_region ttOk (n := 8) (by kernel_rfl) (by kernel_rfl) ?_)
      refine R_pure 2 (by kernel_rfl) (Ds := []) (by kernel_rfl) trivial ?_
      obtain ⟨x34, hx35, h0⟩ := bindE h0
      refine R_callO [] 18 [(eL e_api_Jump f0), (eL e_api_Jump x19.1)] (.tup [(eL e_api_Jump x34.1), (eInt .i64 x34.2)]) true (by kernel_rfl) (by kernel_rfl) (by kernel_rfl) (fun hb36 => (w_step_Mul f0 x19.1 _ hx35)) hO ?_
      intro H hO
      refine R_all (Ds := []) (by kernel_rfl) trivial ?_
      refine E_has (l := [(11, (eL e_api_Jump x7.1)), (12, (eInt .i64 x7.2)), (16, (eInt .i64 x19.2)), (21, (eL e_api_Jump x31.1)), (22, (eInt .i64 x31.2)), (23, (eL e_api_Jump x34.1)), (24, (eInt .i64 x34.2))]) (.eq (by kernel_rfl)) ?_
      refine E_done (thenA_normal (?_))
      refine C_seq (by kernel_rfl) ?_
      refine A_cl (C_region ttOk (n := 8) (by kernel_rfl) (by kernel_rfl) ?_)
      refine R_pure 2 (by kernel_rfl) (Ds := []) (by kernel_rfl) trivial ?_
      obtain ⟨x37, hx38, h0⟩ := bindE h0
      refine R_callO [] 17 [(eL e_api_Jump x7.1), (eL e_api_Jump x31.1)] (.tup [(eL e_api_Jump x37.1), (eInt .i64 x37.2)]) true (by kernel_rfl) (by kernel_rfl) (by kernel_rfl) (fun hb39 => (w_step_Add x7.1 x31.1 _ hx38)) hO ?_
      intro H hO
      refine R_all (Ds := []) (by kernel_rfl) trivial ?_
      refine E_has (l := [(12, (eInt .i64 x7.2)), (16, (eInt .i64 x19.2)), (22, (eInt .i64 x31.2)), (23, (eL e_api_Jump x34.1)), (24, (eInt .i64 x34.2)), (25, (eL e_api_Jump x37.1)), (26, (eInt .i64 x37.2))]) (.eq (by kernel_rfl)) ?_
      refine E_done (thenA_normal (?_))
      refine C_seq (by kernel_rfl) ?_
      refine C_seq (by kernel_rfl) ?_
      refine A_cl (C_region ttOk (n := 10) (by kernel_rfl) (by kernel_rfl) ?_)
      refine R_all (Ds := []) (by kernel_rfl) trivial ?_
      refine E_has (l := [(23, (eL e_api_Jump x34.1)), (24, (eInt .i64 x34.2)), (25, (eL e_api_Jump x37.1)), (26, (eInt .i64 x37.2)), (133, (eBool (((!decide (x7.2 = (0 : Int))) || (!decide (x19.2 = (0 : Int)))) || (!decide (x31.2 = (0 : Int))))))]) (.eq (by kernel_rfl)) ?_
      refine E_done (thenA_normal (?_))
      refine C_cond (b := ((!decide (x7.2 = (0 : Int))) || (!decide (x19.2 = (0 : Int)))) || (!decide (x31.2 = (0 : Int)))) (by kernel_rfl) (by kernel_rfl) (fun hc49 => ?_) (fun hc49 => ?_)
      · replace h0 := condT hc49 h0
        refine C_seq (by kernel_rfl) ?_
        refine A_cl (C_region ttOk (n := 2) (by kernel_rfl) (by kernel_rfl) ?_)
        obtain ⟨x40, hx41, h0⟩ := bindE h0
        refine R_callO [] 11 [] (eBool x40) true (by kernel_rfl) (by kernel_rfl) (by kernel_rfl) (fun hb42 => (w_law09_live  _ hx41)) hO ?_
        intro H hO
        refine R_all (Ds := []) (by kernel_rfl) trivial ?_
        refine E_has (l := [(6, (eBool x40))]) (.eq (by kernel_rfl)) ?_
        refine E_done (thenA_normal (?_))
        refine A_cl (C_ret (by kernel_rfl) ?_)
        refine E_has (l := [(6, (eBool x40))]) (.eq (by kernel_rfl)) ?_
        obtain rfl := Option.some.inj h0
        exact E_done (thenA_ret (Q_ret (x := (eBool x40)) (by kernel_rfl) (SubV.refl _) ⟨rfl, hO.out⟩))
      · replace h0 := condF hc49 h0
        refine A_cl (C_skip (by kernel_rfl) ?_)
        refine E_has (l := [(23, (eL e_api_Jump x34.1)), (24, (eInt .i64 x34.2)), (25, (eL e_api_Jump x37.1)), (26, (eInt .i64 x37.2))]) (.eq (by kernel_rfl)) ?_
        refine E_done (thenA_normal (?_))
        refine C_seq (by kernel_rfl) ?_
        refine A_cl (C_region ttOk (n := 12) (by kernel_rfl) (by kernel_rfl) ?_)
        obtain ⟨x43, hx44, h0⟩ := bindE h0
        refine R_callO [] 11 [] (eBool x43) true (by kernel_rfl) (by kernel_rfl) (by kernel_rfl) (fun hb45 => (w_law09_live  _ hx44)) hO ?_
        intro H hO
        refine R_pure 9 (by kernel_rfl) (Ds := []) (by kernel_rfl) trivial ?_
        obtain ⟨x46, hx47, h0⟩ := bindE h0
        refine R_callO [(141, true)] 14 [(eL e_api_Jump x34.1), (eL e_api_Jump x37.1)] (eBool x46) (x43 && (decide (x34.2 = x37.2))) (by kernel_rfl) (by kernel_rfl) (by kernel_rfl) (fun hb48 => (w_ref09_Same x34.1 x37.1 _ (gcallE hx47 hb48))) hO ?_
        intro H hO
        refine R_all (Ds := []) (by kernel_rfl) trivial ?_
        refine E_has (l := [(6, (eBool ((x43 && (decide (x34.2 = x37.2))) && x46)))]) (.eq (by kernel_rfl)) ?_
        refine E_done (thenA_normal (?_))
        refine A_cl (C_ret (by kernel_rfl) ?_)
        refine E_has (l := [(6, (eBool ((x43 && (decide (x34.2 = x37.2))) && x46)))]) (.eq (by kernel_rfl)) ?_
        obtain rfl := Option.some.inj h0
        exact E_done (Q_ret (x := (eBool ((x43 && (decide (x34.2 = x37.2))) && x46))) (by kernel_rfl) (SubV.refl _) ⟨rfl, hO.out⟩)

theorem w_ref09_Places (f0 : (List api_Jump)) (g1 : (List api_Jump)) (r : (List Int)) (h0 : s_ref09_Places f0 g1 = some r) : Fine Try.prog 46 [(eL e_api_Jump f0), (eL e_api_Jump g1)] (eL (eInt .i64) r) := by
  intro H0
  refine F_walk Try.func46 (by kernel_rfl) (by kernel_rfl) (by kernel_rfl) ?_
  have hO := Owns.start H0
  unfold s_ref09_Places at h0
  refine C_seq (by kernel_rfl) ?_
  refine A_cl (C_region ttOk (n := 1) (by kernel_rfl) (by kernel_rfl) ?_)
  refine R_all (Ds := []) (by kernel_rfl) trivial ?_
  refine E_has (l := [(0, (eL e_api_Jump f0)), (1, (eL e_api_Jump g1))]) (.eq (by kernel_rfl)) ?_
  refine E_done (thenA_normal (?_))
  refine C_seq (by kernel_rfl) ?_
  refine A_cl (C_region ttOk (n := 2) (by kernel_rfl) (by kernel_rfl) ?_)
  refine R_bsl (xs := []) (k := 1) (by kernel_rfl) (by kernel_rfl) ?_
  refine R_all (Ds := []) (by kernel_rfl) trivial ?_
  refine E_has (l := [(0, (eL e_api_Jump f0)), (1, (eL e_api_Jump g1)), (5, (.sl true 0 (fun _ => .bad)))]) (.eq (by kernel_rfl)) ?_
  refine E_done (thenA_normal (?_))
  refine C_seqJ (by kernel_rfl) (fun T H => ∃ l5 : (List Int), Has T [(1, (eL e_api_Jump g1)), (5, (eL (eInt .i64) l5))] ∧ Owns ⟨H0, []⟩ H [] ∧ ref09_Places_j1 g1 l5 = some r) ?_ ?_
  · clear hO h0
    rintro T H ⟨l5, hT, hO, h0⟩
    refine C_has hT ?_
    clear hT
    unfold ref09_Places_j1 at h0
    refine C_seqJ (by kernel_rfl) (fun T H => ∃ l5 : (List Int), Has T [(5, (eL (eInt .i64) l5))] ∧ Owns ⟨H0, []⟩ H [] ∧ ref09_Places_j2 l5 = some r) ?_ ?_
    · clear hO h0
      rintro T H ⟨l5, hT, hO, h0⟩
      refine C_has hT ?_
      clear hT
      unfold ref09_Places_j2 at h0
      refine C_seq (by kernel_rfl) ?_
      refine A_cl (C_region ttOk (n := 2) (by kernel_rfl) (by kernel_rfl) ?_)
      refine R_all (Ds := []) (by kernel_rfl) trivial ?_
      refine E_has (l := [(4, (eL (eInt .i64) l5))]) (.eq (by kernel_rfl)) ?_
      refine E_done (thenA_normal (?_))
      refine A_cl (C_ret (by kernel_rfl) ?_)
      refine E_has (l := [(4, (eL (eInt .i64) l5))]) (.eq (by kernel_rfl)) ?_
      obtain rfl := Option.some.inj h0
      exact E_done (Q_ret (x := (eL (eInt .i64) l5)) (by kernel_rfl) (SubV.refl _) ⟨rfl, hO.out⟩)
    · refine C_seq (by kernel_rfl) ?_
      refine A_cl (C_region ttOk (n := 1) (by kernel_rfl) (by kernel_rfl) ?_)
      refine R_all (Ds := []) (by kernel_rfl) trivial ?_
      refine E_has (l := [(1, (eL e_api_Jump g1)), (5, (eL (eInt .i64) l5)), (7, (eInt .i64 (0 : Int)))]) (.eq (by kernel_rfl)) ?_
      refine E_done (thenA_normal (?_))
      refine C_block (id := 2) (by kernel_rfl) (by kernel_rfl) ?_
      refine C_has (l := [(1, (eL e_api_Jump g1)), (5, (eL (eInt .i64) l5)), (7, (eInt .i64 (0 : Int)))]) (.eq (by kernel_rfl)) ?_
      refine C_cut (fun T H => ∃ l5 : (List Int), ∃ i7 : Int, Has T [(1, (eL e_api_Jump g1)), (5, (eL (eInt .i64) l5)), (7, (eInt .i64 i7))] ∧ Owns ⟨H0, []⟩ H [] ∧ ref09_Places_h3 g1 l5 i7 = some r) ?_ ⟨l5, (0 : Int), .eq (by kernel_rfl), hO, h0⟩
      clear hO h0
      rintro T H ⟨l5, i7, hT, hO, h0⟩
      refine C_has hT ?_
      clear hT
      unfold ref09_Places_h3 at h0
      obtain ⟨rr0, hl0, h0⟩ := bindE h0
      refine C_loopS (by kernel_rfl) (fun (s : (List Int) × Int) T H => Has T [(1, (eL e_api_Jump g1)), (5, (eL (eInt .i64) s.1)), (7, (eInt .i64 s.2))] ∧ Owns ⟨H0, []⟩ H []) hl0 ⟨.eq (by kernel_rfl), hO⟩ ?_
      clear hO
      rintro k0 s out1 T H ⟨hT, hO⟩ h1 ho0
      obtain ⟨l5, i7⟩ := s
      replace h1 : ref09_Places_l3 g1 l5 i7 = some out1 := h1
      refine C_has (l := [(1, (eL e_api_Jump g1)), (5, (eL (eInt .i64) l5)), (7, (eInt .i64 i7))]) hT ?_
      clear hT
      unfold ref09_Places_l3 at h1
      refine C_seq (by kernel_rfl) ?_
      refine C_seq (by kernel_rfl) ?_
      refine A_cl (C_region ttOk (n := 4) (by kernel_rfl) (by kernel_rfl) ?_)
      refine R_all (Ds := []) (by kernel_rfl) trivial ?_
      refine E_has (l := [(1, (eL e_api_Jump g1)), (5, (eL (eInt .i64) l5)), (7, (eInt .i64 i7)), (25, (eBool (decide (i7 < ((List.length g1 : Nat) : Int)))))]) (.eq (by kernel_rfl)) ?_
      refine E_done (thenA_normal (?_))
      refine C_cond (b := decide (i7 < ((List.length g1 : Nat) : Int))) (by kernel_rfl) (by kernel_rfl) (fun hc5 => ?_) (fun hc5 => ?_)
      · replace h1 := condT hc5 h1
        refine A_cl (C_skip (by kernel_rfl) ?_)
        refine E_has (l := [(1, (eL e_api_Jump g1)), (5, (eL (eInt .i64) l5)), (7, (eInt .i64 i7))]) (.eq (by kernel_rfl)) ?_
        refine E_done (thenA_normal (?_))
        refine C_seq (by kernel_rfl) ?_
        refine C_block (id := 3) (by kernel_rfl) (by kernel_rfl) ?_
        refine A_cl (C_region ttOk (n := 8) (by kernel_rfl) (by kernel_rfl) ?_)
        obtain ⟨c1, h1⟩ := asrtE h1
        refine R_pure 6 (by kernel_rfl) (Ds := [0 ≤ i7 ∧ i7 < ((List.length g1 : Nat) : Int)]) (by kernel_rfl) ⟨c1, trivial⟩ ?_
        obtain ⟨x2, hx3, h1⟩ := bindE h1
        refine R_callO [] 40 [(eL (eInt .i64) l5), (eInt .i64 ((List.getD g1 (Int.toNat i7) default).At))] (eL (eInt .i64) x2) true (by kernel_rfl) (by kernel_rfl) (by kernel_rfl) (fun hb4 => (w_ref09_With l5 ((List.getD g1 (Int.toNat i7) default).At) _ hx3)) hO ?_
        intro H hO
        refine R_all (Ds := []) (by kernel_rfl) trivial ?_
        refine E_has (l := [(1, (eL e_api_Jump g1)), (5, (eL (eInt .i64) x2)), (7, (eInt .i64 i7))]) (.eq (by kernel_rfl)) ?_
        refine E_done (blockA_normal (thenA_normal (?_)))
        refine A_cl (C_region ttOk (n := 3) (by kernel_rfl) (by kernel_rfl) ?_)
        refine R_all (Ds := []) (by kernel_rfl) trivial ?_
        refine E_has (l := [(1, (eL e_api_Jump g1)), (5, (eL (eInt .i64) x2)), (7, (eInt .i64 (IntKind.i64.wrap (i7 + (1 : Int)))))]) (.eq (by kernel_rfl)) ?_
        exact E_done (thenA_normal (⟨rfl, (x2, IntKind.i64.wrap (i7 + (1 : Int))), (Option.some.inj h1).symm, .eq (by kernel_rfl), hO⟩))
      · replace h1 := condF hc5 h1
        refine A_cl (C_exit (id := 2) (by kernel_rfl) (by kernel_rfl) ?_)
        refine E_has (l := [(5, (eL (eInt .i64) l5))]) (.eq (by kernel_rfl)) ?_
        obtain rfl := Option.some.inj h1
        obtain rfl : _ = rr0 := ho0
        replace h0 : ref09_Places_j2 l5 = some r := h0
        exact E_done (thenA_exit (thenA_exit (blockA_hit (thenA_normal (⟨rfl, l5, .eq (by kernel_rfl), hO, h0⟩)))))
  · refine C_seq (by kernel_rfl) ?_
    refine A_cl (C_region ttOk (n := 1) (by kernel_rfl) (by kernel_rfl) ?_)
    refine R_all (Ds := []) (by kernel_rfl) trivial ?_
    refine E_has (l := [(0, (eL e_api_Jump f0)), (1, (eL e_api_Jump g1)), (5, (.sl true 0 (fun _ => .bad))), (6, (eInt .i64 (0 : Int)))]) (.eq (by kernel_rfl)) ?_
    refine E_done (thenA_normal (?_))
    refine C_block (id := 0) (by kernel_rfl) (by kernel_rfl) ?_
    refine C_has (l := [(0, (eL e_api_Jump f0)), (1, (eL e_api_Jump g1)), (5, (eL (eInt .i64) ([]))), (6, (eInt .i64 (0 : Int)))]) ⟨[(0, (eL e_api_Jump f0)), (1, (eL e_api_Jump g1)), (5, (.sl true 0 (fun _ => .bad))), (6, (eInt .i64 (0 : Int)))], by kernel_rfl, rfl, ⟨SubV.refl _, SubV.refl _, subNilL, SubV.refl _, trivial⟩⟩ ?_
    refine C_cut (fun T H => ∃ l5 : (List Int), ∃ i6 : Int, Has T [(0, (eL e_api_Jump f0)), (1, (eL e_api_Jump g1)), (5, (eL (eInt .i64) l5)), (6, (eInt .i64 i6))] ∧ Owns ⟨H0, []⟩ H [] ∧ ref09_Places_h4 f0 g1 l5 i6 = some r) ?_ ⟨[], (0 : Int), .eq (by kernel_rfl), hO, h0⟩
    clear hO h0
    rintro T H ⟨l5, i6, hT, hO, h0⟩
    refine C_has hT ?_
    clear hT
    unfold ref09_Places_h4 at h0
    obtain ⟨rr0, hl0, h0⟩ := bindE h0
    refine C_loopS (by kernel_rfl) (fun (s : (List Int) × Int) T H => Has T [(0, (eL e_api_Jump f0)), (1, (eL e_api_Jump g1)), (5, (eL (eInt .i64) s.1)), (6, (eInt .i64 s.2))] ∧ Owns ⟨H0, []⟩ H []) hl0 ⟨.eq (by kernel_rfl), hO⟩ ?_
    clear hO
    rintro k0 s out1 T H ⟨hT, hO⟩ h1 ho0
    obtain ⟨l5, i6⟩ := s
    replace h1 : ref09_Places_l4 f0 g1 l5 i6 = some out1 := h1
    refine C_has (l := [(0, (eL e_api_Jump f0)), (1, (eL e_api_Jump g1)), (5, (eL (eInt .i64) l5)), (6, (eInt .i64 i6))]) hT ?_
    clear hT
    unfold ref09_Places_l4 at h1
    refine C_seq (by kernel_rfl) ?_
    refine C_seq (by kernel_rfl) ?_
    refine A_cl (C_region ttOk (n := 4) (by kernel_rfl) (by kernel_rfl) ?_)
    refine R_all (Ds := []) (by kernel_rfl) trivial ?_
    refine E_has (l := [(0, (eL e_api_Jump f0)), (1, (eL e_api_Jump g1)), (5, (eL (eInt .i64) l5)), (6, (eInt .i64 i6)), (12, (eBool (decide (i6 < ((List.length f0 : Nat) : Int)))))]) (.eq (by kernel_rfl)) ?_
    refine E_done (thenA_normal (?_))
    refine C_cond (b := decide (i6 < ((List.length f0 : Nat) : Int))) (by kernel_rfl) (by kernel_rfl) (fun hc11 => ?_) (fun hc11 => ?_)
    · replace h1 := condT hc11 h1
      refine A_cl (C_skip (by kernel_rfl) ?_)
      refine E_has (l := [(0, (eL e_api_Jump f0)), (1, (eL e_api_Jump g1)), (5, (eL (eInt .i64) l5)), (6, (eInt .i64 i6))]) (.eq (by kernel_rfl)) ?_
      refine E_done (thenA_normal (?_))
      refine C_seq (by kernel_rfl) ?_
      refine C_block (id := 1) (by kernel_rfl) (by kernel_rfl) ?_
      refine A_cl (C_region ttOk (n := 8) (by kernel_rfl) (by kernel_rfl) ?_)
      obtain ⟨c7, h1⟩ := asrtE h1
      refine R_pure 6 (by kernel_rfl) (Ds := [0 ≤ i6 ∧ i6 < ((List.length f0 : Nat) : Int)]) (by kernel_rfl) ⟨c7, trivial⟩ ?_
      obtain ⟨x8, hx9, h1⟩ := bindE h1
      refine R_callO [] 40 [(eL (eInt .i64) l5), (eInt .i64 ((List.getD f0 (Int.toNat i6) default).At))] (eL (eInt .i64) x8) true (by kernel_rfl) (by kernel_rfl) (by kernel_rfl) (fun hb10 => (w_ref09_With l5 ((List.getD f0 (Int.toNat i6) default).At) _ hx9)) hO ?_
      intro H hO
      refine R_all (Ds := []) (by kernel_rfl) trivial ?_
      refine E_has (l := [(0, (eL e_api_Jump f0)), (1, (eL e_api_Jump g1)), (5, (eL (eInt .i64) x8)), (6, (eInt .i64 i6))]) (.eq (by kernel_rfl)) ?_
      refine E_done (blockA_normal (thenA_normal (?_)))
      refine A_cl (C_region ttOk (n := 3) (by kernel_rfl) (by kernel_rfl) ?_)
      refine R_all (Ds := []) (by kernel_rfl) trivial ?_
      refine E_has (l := [(0, (eL e_api_Jump f0)), (1, (eL e_api_Jump g1)), (5, (eL (eInt .i64) x8)), (6, (eInt .i64 (IntKind.i64.wrap (i6 + (1 : Int)))))]) (.eq (by kernel_rfl)) ?_
      exact E_done (thenA_normal (⟨rfl, (x8, IntKind.i64.wrap (i6 + (1 : Int))), (Option.some.inj h1).symm, .eq (by kernel_rfl), hO⟩))
    · replace h1 := condF hc11 h1
      refine A_cl (C_exit (id := 0) (by kernel_rfl) (by kernel_rfl) ?_)
      refine E_has (l := [(1, (eL e_api_Jump g1)), (5, (eL (eInt .i64) l5))]) (.eq (by kernel_rfl)) ?_
      obtain rfl := Option.some.inj h1
      obtain rfl : _ = rr0 := ho0
      replace h0 : ref09_Places_j1 g1 l5 = some r := h0
      exact E_done (thenA_exit (thenA_exit (blockA_hit (thenA_normal (⟨rfl, l5, .eq (by kernel_rfl), hO, h0⟩)))))

theorem w_ref09_Two (f0 : (List api_Jump)) (g1 : (List api_Jump)) (what2 : Int) (r : ((List api_Jump) × Int)) (h0 : s_ref09_Two f0 g1 what2 = some r) : Fine Try.prog 20 [(eL e_api_Jump f0), (eL e_api_Jump g1), (eInt .i64 what2)] (.tup [(eL e_api_Jump r.1), (eInt .i64 r.2)]) := by
  intro H0
  refine F_walk Try.func20 (by kernel_rfl) (by kernel_rfl) (by kernel_rfl) ?_
  have hO := Owns.start H0
  unfold s_ref09_Two at h0
  refine C_seq (by kernel_rfl) ?_
  refine A_cl (C_region ttOk (n := 2) (by kernel_rfl) (by kernel_rfl) ?_)
  refine R_all (Ds := []) (by kernel_rfl) trivial ?_
  refine E_has (l := [(0, (eL e_api_Jump f0)), (1, (eL e_api_Jump g1)), (2, (eInt .i64 what2))]) (.eq (by kernel_rfl)) ?_
  refine E_done (thenA_normal (?_))
  refine C_seq (by kernel_rfl) ?_
  refine C_seq (by kernel_rfl) ?_
  refine A_cl (C_region ttOk (n := 8) (by kernel_rfl) (by kernel_rfl) ?_)
  refine R_pure 1 (by kernel_rfl) (Ds := []) (by kernel_rfl) trivial ?_
  obtain ⟨x1, hx2, h0⟩ := bindE h0
  refine R_callO [] 16 [(eL e_api_Jump f0)] (eBool x1) true (by kernel_rfl) (by kernel_rfl) (by kernel_rfl) (fun hb3 => (w_ref09_May f0 _ hx2)) hO ?_
  intro H hO
  refine R_pure 5 (by kernel_rfl) (Ds := []) (by kernel_rfl) trivial ?_
  obtain ⟨x4, hx5, h0⟩ := bindE h0
  refine R_callO [(17, false)] 16 [(eL e_api_Jump g1)] (eBool x4) (!(!x1)) (by kernel_rfl) (by kernel_rfl) (by kernel_rfl) (fun hb6 => (w_ref09_May g1 _ (gcallE hx5 hb6))) hO ?_
  intro H hO
  refine R_all (Ds := []) (by kernel_rfl) trivial ?_
  refine E_has (l := [(0, (eL e_api_Jump f0)), (1, (eL e_api_Jump g1)), (2, (eInt .i64 what2)), (21, (eBool ((!x1) || (!x4))))]) (.eq (by kernel_rfl)) ?_
  refine E_done (thenA_normal (?_))
  refine C_cond (b := (!x1) || (!x4)) (by kernel_rfl) (by kernel_rfl) (fun hc34 => ?_) (fun hc34 => ?_)
  · replace h0 := condT hc34 h0
    refine C_seq (by kernel_rfl) ?_
    refine A_cl (C_region ttOk (n := 2) (by kernel_rfl) (by kernel_rfl) ?_)
    refine R_all (Ds := []) (by kernel_rfl) trivial ?_
    refine E_has (l := [(6, (.sl true 0 (fun _ => .bad))), (7, (eInt .i64 (2 : Int)))]) (.eq (by kernel_rfl)) ?_
    refine E_done (thenA_normal (?_))
    refine A_cl (C_ret (by kernel_rfl) ?_)
    refine E_has (l := [(6, (eL e_api_Jump ([]))), (7, (eInt .i64 (2 : Int)))]) ⟨[(6, (.sl true 0 (fun _ => .bad))), (7, (eInt .i64 (2 : Int)))], by kernel_rfl, rfl, ⟨subNilL, SubV.refl _, trivial⟩⟩ ?_
    obtain rfl := Option.some.inj h0
    exact E_done (thenA_ret (Q_ret (x := (.tup [(eL e_api_Jump ([])), (eInt .i64 (2 : Int))])) (by kernel_rfl) (SubV.refl _) ⟨rfl, hO.out⟩))
  · replace h0 := condF hc34 h0
    refine A_cl (C_skip (by kernel_rfl) ?_)
    refine E_has (l := [(0, (eL e_api_Jump f0)), (1, (eL e_api_Jump g1)), (2, (eInt .i64 what2))]) (.eq (by kernel_rfl)) ?_
    refine E_done (thenA_normal (?_))
    refine C_seq (by kernel_rfl) ?_
    refine A_cl (C_region ttOk (n := 4) (by kernel_rfl) (by kernel_rfl) ?_)
    refine R_pure 2 (by kernel_rfl) (Ds := []) (by kernel_rfl) trivial ?_
    obtain ⟨x7, hx8, h0⟩ := bindE h0
    refine R_callO [] 46 [(eL e_api_Jump f0), (eL e_api_Jump g1)] (eL (eInt .i64) x7) true (by kernel_rfl) (by kernel_rfl) (by kernel_rfl) (fun hb9 => (w_ref09_Places f0 g1 _ hx8)) hO ?_
    intro H hO
    refine R_all (Ds := []) (by kernel_rfl) trivial ?_
    refine E_has (l := [(0, (eL e_api_Jump f0)), (1, (eL e_api_Jump g1)), (2, (eInt .i64 what2)), (8, (eL (eInt .i64) x7))]) (.eq (by kernel_rfl)) ?_
    refine E_done (thenA_normal (?_))
    refine C_seq (by kernel_rfl) ?_
    refine A_cl (C_region ttOk (n := 2) (by kernel_rfl) (by kernel_rfl) ?_)
    refine R_bsl (xs := []) (k := 1) (by kernel_rfl) (by kernel_rfl) ?_
    refine R_all (Ds := []) (by kernel_rfl) trivial ?_
    refine E_has (l := [(0, (eL e_api_Jump f0)), (1, (eL e_api_Jump g1)), (2, (eInt .i64 what2)), (8, (eL (eInt .i64) x7)), (9, (.sl true 0 (fun _ => .bad)))]) (.eq (by kernel_rfl)) ?_
    refine E_done (thenA_normal (?_))
    refine C_seqJ (by kernel_rfl) (fun T H => ∃ places8 : (List Int), ∃ values9 : List Int, ∃ lo10 : Nat, Has T [(8, (eL (eInt .i64) places8)), (9, (.msl 1 lo10 0 (List.length values9)))] ∧ Owns ⟨H0, []⟩ H [(lo10, 1, List.map (eInt .i64) values9)] ∧ ref09_Two_j1 places8 values9 = some r) ?_ ?_
    · clear hO h0
      rintro T H ⟨places8, values9, lo10, hT, hO, h0⟩
      refine C_has hT ?_
      clear hT
      unfold ref09_Two_j1 at h0
      refine C_seq (by kernel_rfl) ?_
      refine A_cl (C_region ttOk (n := 7) (by kernel_rfl) (by kernel_rfl) ?_)
      refine R_freezeO (e := (eInt .i64)) values9 0 9 1 lo10 (List.length values9) [] (by kernel_rfl) hO (by kernel_rfl) (by kernel_rfl) (by kernel_rfl) (by kernel_rfl) ?_
      intro H hO
      refine R_pure 2 (by kernel_rfl) (Ds := []) (by kernel_rfl) trivial ?_
      obtain ⟨x11, hx12, h0⟩ := bindE h0
      refine R_callO [] 42 [(eL (eInt .i64) places8), (eL (eInt .i64) values9)] (.tup [(eL e_api_Jump x11.1), (eInt .i64 x11.2)]) true (by kernel_rfl) (by kernel_rfl) (by kernel_rfl) (fun hb13 => (w_ref09_Told places8 values9 _ hx12)) hO ?_
      intro H hO
      refine R_all (Ds := []) (by kernel_rfl) trivial ?_
      refine E_has (l := [(6, (eL e_api_Jump x11.1)), (7, (eInt .i64 x11.2))]) (.eq (by kernel_rfl)) ?_
      refine E_done (thenA_normal (?_))
      refine A_cl (C_ret (by kernel_rfl) ?_)
      refine E_has (l := [(6, (eL e_api_Jump x11.1)), (7, (eInt .i64 x11.2))]) (.eq (by kernel_rfl)) ?_
      obtain rfl := Option.some.inj h0
      exact E_done (Q_ret (x := (.tup [(eL e_api_Jump x11.1), (eInt .i64 x11.2)])) (by kernel_rfl) (SubV.refl _) ⟨rfl, hO.out⟩)
    · refine C_seq (by kernel_rfl) ?_
      refine A_cl (C_region ttOk (n := 1) (by kernel_rfl) (by kernel_rfl) ?_)
      refine R_all (Ds := []) (by kernel_rfl) trivial ?_
      refine E_has (l := [(0, (eL e_api_Jump f0)), (1, (eL e_api_Jump g1)), (2, (eInt .i64 what2)), (8, (eL (eInt .i64) x7)), (9, (.sl true 0 (fun _ => .bad))), (10, (eInt .i64 (0 : Int)))]) (.eq (by kernel_rfl)) ?_
      refine E_done (thenA_normal (?_))
      refine C_block (id := 0) (by kernel_rfl) (by kernel_rfl) ?_
      refine C_has (l := [(0, (eL e_api_Jump f0)), (1, (eL e_api_Jump g1)), (2, (eInt .i64 what2)), (8, (eL (eInt .i64) x7)), (9, (.sl true 0 (fun _ => .bad))), (10, (eInt .i64 (0 : Int)))]) (.eq (by kernel_rfl)) ?_
      refine C_ownO (el := (fun _ => .bad)) 4 9 1 hO (by kernel_rfl) ?_
      intro lo32 H33 hO
      refine C_cut (fun T H => ∃ places8 : (List Int), ∃ values9 : List Int, ∃ i10 : Int, ∃ lo15 : Nat, Has T [(0, (eL e_api_Jump f0)), (1, (eL e_api_Jump g1)), (2, (eInt .i64 what2)), (8, (eL (eInt .i64) places8)), (9, (.msl 1 lo15 0 (List.length values9))), (10, (eInt .i64 i10))] ∧ Owns ⟨H0, []⟩ H [(lo15, 1, List.map (eInt .i64) values9)] ∧ ref09_Two_h2 f0 g1 what2 places8 values9 i10 = some r) ?_ ⟨x7, ([] : List Int), (0 : Int), lo32, .eq (by kernel_rfl), hO, h0⟩
      clear hO h0
      rintro T H ⟨places8, values9, i10, lo15, hT, hO, h0⟩
      refine C_has hT ?_
      clear hT
      unfold ref09_Two_h2 at h0
      obtain ⟨rr0, hl0, h0⟩ := bindE h0
      refine C_loopS (by kernel_rfl) (fun (s : List Int × Int) T H => ∃ lo15 : Nat, Has T [(0, (eL e_api_Jump f0)), (1, (eL e_api_Jump g1)), (2, (eInt .i64 what2)), (8, (eL (eInt .i64) places8)), (9, (.msl 1 lo15 0 (List.length s.1))), (10, (eInt .i64 s.2))] ∧ Owns ⟨H0, []⟩ H [(lo15, 1, List.map (eInt .i64) s.1)]) hl0 ⟨lo15, .eq (by kernel_rfl), hO⟩ ?_
      clear hO
      rintro k0 s out1 T H ⟨lo15, hT, hO⟩ h1 ho0
      obtain ⟨values9, i10⟩ := s
      replace h1 : ref09_Two_l2 f0 g1 what2 places8 values9 i10 = some out1 := h1
      refine C_has (l := [(0, (eL e_api_Jump f0)), (1, (eL e_api_Jump g1)), (2, (eInt .i64 what2)), (8, (eL (eInt .i64) places8)), (9, (.msl 1 lo15 0 (List.length values9))), (10, (eInt .i64 i10))]) hT ?_
      clear hT
      unfold ref09_Two_l2 at h1
      refine C_seq (by kernel_rfl) ?_
      refine C_seq (by kernel_rfl) ?_
      refine A_cl (C_region ttOk (n := 4) (by kernel_rfl) (by kernel_rfl) ?_)
      refine R_all (Ds := []) (by kernel_rfl) trivial ?_
      refine E_has (l := [(0, (eL e_api_Jump f0)), (1, (eL e_api_Jump g1)), (2, (eInt .i64 what2)), (8, (eL (eInt .i64) places8)), (9, (.msl 1 lo15 0 (List.length values9))), (10, (eInt .i64 i10)), (29, (eBool (decide (i10 < ((List.length places8 : Nat) : Int)))))]) (.eq (by kernel_rfl)) ?_
      refine E_done (thenA_normal (?_))
      refine C_cond (b := decide (i10 < ((List.length places8 : Nat) : Int))) (by kernel_rfl) (by kernel_rfl) (fun hc31 => ?_) (fun hc31 => ?_)
      · replace h1 := condT hc31 h1
        refine A_cl (C_skip (by kernel_rfl) ?_)
        refine E_has (l := [(0, (eL e_api_Jump f0)), (1, (eL e_api_Jump g1)), (2, (eInt .i64 what2)), (8, (eL (eInt .i64) places8)), (9, (.msl 1 lo15 0 (List.length values9))), (10, (eInt .i64 i10))]) (.eq (by kernel_rfl)) ?_
        refine E_done (thenA_normal (?_))
        refine C_seq (by kernel_rfl) ?_
        refine C_block (id := 1) (by kernel_rfl) (by kernel_rfl) ?_
        refine C_seq (by kernel_rfl) ?_
        refine A_cl (C_region ttOk (n := 7) (by kernel_rfl) (by kernel_rfl) ?_)
        obtain ⟨c16, h1⟩ := asrtE h1
        refine R_pure 5 (by kernel_rfl) (Ds := [0 ≤ i10 ∧ i10 < ((List.length places8 : Nat) : Int)]) (by kernel_rfl) ⟨c16, trivial⟩ ?_
        obtain ⟨x17, hx18, h1⟩ := bindE h1
        refine R_callO [] 41 [(eL e_api_Jump f0), (eInt .i64 (List.getD places8 (Int.toNat i10) default))] (eInt .i64 x17) true (by kernel_rfl) (by kernel_rfl) (by kernel_rfl) (fun hb19 => (w_ref09_Value f0 (List.getD places8 (Int.toNat i10) default) _ hx18)) hO ?_
        intro H hO
        refine R_all (Ds := []) (by kernel_rfl) trivial ?_
        refine E_has (l := [(0, (eL e_api_Jump f0)), (1, (eL e_api_Jump g1)), (2, (eInt .i64 what2)), (8, (eL (eInt .i64) places8)), (9, (.msl 1 lo15 0 (List.length values9))), (10, (eInt .i64 i10)), (11, (eInt .i64 x17))]) (.eq (by kernel_rfl)) ?_
        refine E_done (thenA_normal (?_))
        refine C_seq (by kernel_rfl) ?_
        refine A_cl (C_region ttOk (n := 7) (by kernel_rfl) (by kernel_rfl) ?_)
        obtain ⟨c20, h1⟩ := asrtE h1
        refine R_pure 5 (by kernel_rfl) (Ds := [0 ≤ i10 ∧ i10 < ((List.length places8 : Nat) : Int)]) (by kernel_rfl) ⟨c20, trivial⟩ ?_
        obtain ⟨x21, hx22, h1⟩ := bindE h1
        refine R_callO [] 41 [(eL e_api_Jump g1), (eInt .i64 (List.getD places8 (Int.toNat i10) default))] (eInt .i64 x21) true (by kernel_rfl) (by kernel_rfl) (by kernel_rfl) (fun hb23 => (w_ref09_Value g1 (List.getD places8 (Int.toNat i10) default) _ hx22)) hO ?_
        intro H hO
        refine R_all (Ds := []) (by kernel_rfl) trivial ?_
        refine E_has (l := [(0, (eL e_api_Jump f0)), (1, (eL e_api_Jump g1)), (2, (eInt .i64 what2)), (8, (eL (eInt .i64) places8)), (9, (.msl 1 lo15 0 (List.length values9))), (10, (eInt .i64 i10)), (11, (eInt .i64 x17)), (12, (eInt .i64 x21))]) (.eq (by kernel_rfl)) ?_
        refine E_done (thenA_normal (?_))
        refine C_seq (by kernel_rfl) ?_
        refine A_cl (C_region ttOk (n := 4) (by kernel_rfl) (by kernel_rfl) ?_)
        refine R_all (Ds := []) (by kernel_rfl) trivial ?_
        refine E_has (l := [(0, (eL e_api_Jump f0)), (1, (eL e_api_Jump g1)), (2, (eInt .i64 what2)), (8, (eL (eInt .i64) places8)), (9, (.msl 1 lo15 0 (List.length values9))), (10, (eInt .i64 i10)), (11, (eInt .i64 x17)), (12, (eInt .i64 x21)), (13, (eInt .i64 (IntKind.i64.wrap (x17 + x21))))]) (.eq (by kernel_rfl)) ?_
        refine E_done (thenA_normal (?_))
        refine C_seqJ (by kernel_rfl) (fun T H => ∃ values9 : List Int, ∃ a11 : Int, ∃ b12 : Int, ∃ v13 : Int, ∃ lo24 : Nat, Has T [(0, (eL e_api_Jump f0)), (1, (eL e_api_Jump g1)), (2, (eInt .i64 what2)), (8, (eL (eInt .i64) places8)), (9, (.msl 1 lo24 0 (List.length values9))), (10, (eInt .i64 i10)), (11, (eInt .i64 a11)), (12, (eInt .i64 b12)), (13, (eInt .i64 v13))] ∧ Owns ⟨H0, []⟩ H [(lo24, 1, List.map (eInt .i64) values9)] ∧ ref09_Two_j3 f0 g1 what2 places8 values9 i10 a11 b12 v13 = some out1) ?_ ?_
        · clear hO h1
          rintro T H ⟨values9, a11, b12, v13, lo24, hT, hO, h1⟩
          refine C_has hT ?_
          clear hT
          unfold ref09_Two_j3 at h1
          refine C_seqJ (by kernel_rfl) (fun T H => ∃ values9 : List Int, ∃ v13 : Int, ∃ lo25 : Nat, Has T [(0, (eL e_api_Jump f0)), (1, (eL e_api_Jump g1)), (2, (eInt .i64 what2)), (8, (eL (eInt .i64) places8)), (9, (.msl 1 lo25 0 (List.length values9))), (10, (eInt .i64 i10)), (13, (eInt .i64 v13))] ∧ Owns ⟨H0, []⟩ H [(lo25, 1, List.map (eInt .i64) values9)] ∧ ref09_Two_j4 f0 g1 what2 places8 values9 i10 v13 = some out1) ?_ ?_
          · clear hO h1
            rintro T H ⟨values9, v13, lo25, hT, hO, h1⟩
            refine C_has hT ?_
            clear hT
            unfold ref09_Two_j4 at h1
            refine A_cl (C_region ttOk (n := 5) (by kernel_rfl) (by kernel_rfl) ?_)
            refine R_pure 2 (by kernel_rfl) (Ds := []) (by kernel_rfl) trivial ?_
            refine R_bsl (xs := [(eInt .i64 v13)]) (k := 1) (by kernel_rfl) (by kernel_rfl) ?_
            obtain ⟨c27, h1⟩ := asrtE h1
            refine R_appOL (e := (eInt .i64)) values9 ([v13]) 0 lo25 1 8 (frozenOf [(eInt .i64 v13)]) (fun lo26 => [(lo26, 1, List.map (eInt .i64) (values9 ++ ([v13])))]) (by kernel_rfl) (by kernel_rfl) hO (by kernel_rfl) (by kernel_rfl) c27 (fun _ => by kernel_rfl) ?_
            intro lo26 H hO
            refine R_all (Ds := []) (by kernel_rfl) trivial ?_
            refine E_has (l := [(0, (eL e_api_Jump f0)), (1, (eL e_api_Jump g1)), (2, (eInt .i64 what2)), (8, (eL (eInt .i64) places8)), (9, (.msl 1 lo26 0 (List.length (values9 ++ ([v13]))))), (10, (eInt .i64 i10))]) (.eq (by kernel_rfl)) ?_
            refine E_done (blockA_normal (thenA_normal (?_)))
            refine A_cl (C_region ttOk (n := 3) (by kernel_rfl) (by kernel_rfl) ?_)
            refine R_all (Ds := []) (by kernel_rfl) trivial ?_
            refine E_has (l := [(0, (eL e_api_Jump f0)), (1, (eL e_api_Jump g1)), (2, (eInt .i64 what2)), (8, (eL (eInt .i64) places8)), (9, (.msl 1 lo26 0 (List.length (values9 ++ ([v13]))))), (10, (eInt .i64 (IntKind.i64.wrap (i10 + (1 : Int)))))]) (.eq (by kernel_rfl)) ?_
            exact E_done (thenA_normal (⟨rfl, (values9 ++ ([v13]), IntKind.i64.wrap (i10 + (1 : Int))), (Option.some.inj h1).symm, lo26, .eq (by kernel_rfl), hO⟩))
          · refine C_seq (by kernel_rfl) ?_
            refine A_cl (C_region ttOk (n := 2) (by kernel_rfl) (by kernel_rfl) ?_)
            refine R_all (Ds := []) (by kernel_rfl) trivial ?_
            refine E_has (l := [(0, (eL e_api_Jump f0)), (1, (eL e_api_Jump g1)), (2, (eInt .i64 what2)), (8, (eL (eInt .i64) places8)), (9, (.msl 1 lo24 0 (List.length values9))), (10, (eInt .i64 i10)), (11, (eInt .i64 a11)), (12, (eInt .i64 b12)), (13, (eInt .i64 v13)), (53, (eBool (decide (what2 = (2 : Int)))))]) (.eq (by kernel_rfl)) ?_
            refine E_done (thenA_normal (?_))
            refine C_cond (b := decide (what2 = (2 : Int))) (by kernel_rfl) (by kernel_rfl) (fun hc29 => ?_) (fun hc29 => ?_)
            · replace h1 := condT hc29 h1
              refine C_seq (by kernel_rfl) ?_
              refine A_cl (C_region ttOk (n := 2) (by kernel_rfl) (by kernel_rfl) ?_)
              refine R_all (Ds := []) (by kernel_rfl) trivial ?_
              refine E_has (l := [(0, (eL e_api_Jump f0)), (1, (eL e_api_Jump g1)), (2, (eInt .i64 what2)), (8, (eL (eInt .i64) places8)), (9, (.msl 1 lo24 0 (List.length values9))), (10, (eInt .i64 i10)), (12, (eInt .i64 b12)), (13, (eInt .i64 a11))]) (.eq (by kernel_rfl)) ?_
              refine E_done (thenA_normal (?_))
              refine C_seq (by kernel_rfl) ?_
              refine A_cl (C_region ttOk (n := 2) (by kernel_rfl) (by kernel_rfl) ?_)
              refine R_all (Ds := []) (by kernel_rfl) trivial ?_
              refine E_has (l := [(0, (eL e_api_Jump f0)), (1, (eL e_api_Jump g1)), (2, (eInt .i64 what2)), (8, (eL (eInt .i64) places8)), (9, (.msl 1 lo24 0 (List.length values9))), (10, (eInt .i64 i10)), (13, (eInt .i64 a11)), (56, (eBool (!decide (b12 = (0 : Int)))))]) (.eq (by kernel_rfl)) ?_
              refine E_done (thenA_normal (?_))
              refine C_cond (b := !decide (b12 = (0 : Int))) (by kernel_rfl) (by kernel_rfl) (fun hc28 => ?_) (fun hc28 => ?_)
              · replace h1 := condT hc28 h1
                refine A_cl (C_region ttOk (n := 1) (by kernel_rfl) (by kernel_rfl) ?_)
                refine R_all (Ds := []) (by kernel_rfl) trivial ?_
                refine E_has (l := [(0, (eL e_api_Jump f0)), (1, (eL e_api_Jump g1)), (2, (eInt .i64 what2)), (8, (eL (eInt .i64) places8)), (9, (.msl 1 lo24 0 (List.length values9))), (10, (eInt .i64 i10)), (13, (eInt .i64 (0 : Int)))]) (.eq (by kernel_rfl)) ?_
                exact E_done (thenA_normal (⟨rfl, values9, (0 : Int), lo24, .eq (by kernel_rfl), hO, h1⟩))
              · replace h1 := condF hc28 h1
                refine A_cl (C_skip (by kernel_rfl) ?_)
                refine E_has (l := [(0, (eL e_api_Jump f0)), (1, (eL e_api_Jump g1)), (2, (eInt .i64 what2)), (8, (eL (eInt .i64) places8)), (9, (.msl 1 lo24 0 (List.length values9))), (10, (eInt .i64 i10)), (13, (eInt .i64 a11))]) (.eq (by kernel_rfl)) ?_
                exact E_done (thenA_normal (⟨rfl, values9, a11, lo24, .eq (by kernel_rfl), hO, h1⟩))
            · replace h1 := condF hc29 h1
              refine A_cl (C_skip (by kernel_rfl) ?_)
              refine E_has (l := [(0, (eL e_api_Jump f0)), (1, (eL e_api_Jump g1)), (2, (eInt .i64 what2)), (8, (eL (eInt .i64) places8)), (9, (.msl 1 lo24 0 (List.length values9))), (10, (eInt .i64 i10)), (13, (eInt .i64 v13))]) (.eq (by kernel_rfl)) ?_
              exact E_done (thenA_normal (⟨rfl, values9, v13, lo24, .eq (by kernel_rfl), hO, h1⟩))
        · refine C_seq (by kernel_rfl) ?_
          refine A_cl (C_region ttOk (n := 2) (by kernel_rfl) (by kernel_rfl) ?_)
          refine R_all (Ds := []) (by kernel_rfl) trivial ?_
          refine E_has (l := [(0, (eL e_api_Jump f0)), (1, (eL e_api_Jump g1)), (2, (eInt .i64 what2)), (8, (eL (eInt .i64) places8)), (9, (.msl 1 lo15 0 (List.length values9))), (10, (eInt .i64 i10)), (11, (eInt .i64 x17)), (12, (eInt .i64 x21)), (13, (eInt .i64 (IntKind.i64.wrap (x17 + x21)))), (48, (eBool (decide (what2 = (1 : Int)))))]) (.eq (by kernel_rfl)) ?_
          refine E_done (thenA_normal (?_))
          refine C_cond (b := decide (what2 = (1 : Int))) (by kernel_rfl) (by kernel_rfl) (fun hc30 => ?_) (fun hc30 => ?_)
          · replace h1 := condT hc30 h1
            refine A_cl (C_region ttOk (n := 4) (by kernel_rfl) (by kernel_rfl) ?_)
            refine R_all (Ds := []) (by kernel_rfl) trivial ?_
            refine E_has (l := [(0, (eL e_api_Jump f0)), (1, (eL e_api_Jump g1)), (2, (eInt .i64 what2)), (8, (eL (eInt .i64) places8)), (9, (.msl 1 lo15 0 (List.length values9))), (10, (eInt .i64 i10)), (11, (eInt .i64 x17)), (12, (eInt .i64 x21)), (13, (eInt .i64 (IntKind.i64.wrap (x17 * x21))))]) (.eq (by kernel_rfl)) ?_
            exact E_done (thenA_normal (⟨rfl, values9, x17, x21, IntKind.i64.wrap (x17 * x21), lo15, .eq (by kernel_rfl), hO, h1⟩))
          · replace h1 := condF hc30 h1
            refine A_cl (C_skip (by kernel_rfl) ?_)
            refine E_has (l := [(0, (eL e_api_Jump f0)), (1, (eL e_api_Jump g1)), (2, (eInt .i64 what2)), (8, (eL (eInt .i64) places8)), (9, (.msl 1 lo15 0 (List.length values9))), (10, (eInt .i64 i10)), (11, (eInt .i64 x17)), (12, (eInt .i64 x21)), (13, (eInt .i64 (IntKind.i64.wrap (x17 + x21))))]) (.eq (by kernel_rfl)) ?_
            exact E_done (thenA_normal (⟨rfl, values9, x17, x21, IntKind.i64.wrap (x17 + x21), lo15, .eq (by kernel_rfl), hO, h1⟩))
      · replace h1 := condF hc31 h1
        refine A_cl (C_exit (id := 0) (by kernel_rfl) (by kernel_rfl) ?_)
        refine E_has (l := [(8, (eL (eInt .i64) places8)), (9, (.msl 1 lo15 0 (List.length values9)))]) (.eq (by kernel_rfl)) ?_
        obtain rfl := Option.some.inj h1
        obtain rfl : _ = rr0 := ho0
        replace h0 : ref09_Two_j1 places8 values9 = some r := h0
        exact E_done (thenA_exit (thenA_exit (blockA_hit (thenA_normal (⟨rfl, places8, values9, lo15, .eq (by kernel_rfl), hO, h0⟩)))))

theorem w_step_Where_1 (a0 : Int) (b1 : Int) (r : Int) (h0 : s_step_Where_1 a0 b1 = some r) : Fine Try.prog 47 [(eInt .i64 a0), (eInt .i64 b1)] (eInt .i64 r) := by
  intro H0
  refine F_walk Try.func47 (by kernel_rfl) (by kernel_rfl) (by kernel_rfl) ?_
  have hO := Owns.start H0
  unfold s_step_Where_1 at h0
  refine C_seq (by kernel_rfl) ?_
  refine A_cl (C_region ttOk (n := 1) (by kernel_rfl) (by kernel_rfl) ?_)
  refine R_all (Ds := []) (by kernel_rfl) trivial ?_
  refine E_has (l := [(0, (eInt .i64 a0)), (1, (eInt .i64 b1))]) (.eq (by kernel_rfl)) ?_
  refine E_done (thenA_normal (?_))
  refine C_seq (by kernel_rfl) ?_
  refine C_seq (by kernel_rfl) ?_
  refine A_cl (C_region ttOk (n := 2) (by kernel_rfl) (by kernel_rfl) ?_)
  refine R_all (Ds := []) (by kernel_rfl) trivial ?_
  refine E_has (l := [(0, (eInt .i64 a0)), (6, (eBool (!decide (b1 = (0 : Int)))))]) (.eq (by kernel_rfl)) ?_
  refine E_done (thenA_normal (?_))
  refine C_cond (b := !decide (b1 = (0 : Int))) (by kernel_rfl) (by kernel_rfl) (fun hc1 => ?_) (fun hc1 => ?_)
  · replace h0 := condT hc1 h0
    refine C_seq (by kernel_rfl) ?_
    refine A_cl (C_region ttOk (n := 1) (by kernel_rfl) (by kernel_rfl) ?_)
    refine R_all (Ds := []) (by kernel_rfl) trivial ?_
    refine E_has (l := [(4, (eInt .i64 (0 : Int)))]) (.eq (by kernel_rfl)) ?_
    refine E_done (thenA_normal (?_))
    refine A_cl (C_ret (by kernel_rfl) ?_)
    refine E_has (l := [(4, (eInt .i64 (0 : Int)))]) (.eq (by kernel_rfl)) ?_
    obtain rfl := Option.some.inj h0
    exact E_done (thenA_ret (Q_ret (x := (eInt .i64 (0 : Int))) (by kernel_rfl) (SubV.refl _) ⟨rfl, hO.out⟩))
  · replace h0 := condF hc1 h0
    refine A_cl (C_skip (by kernel_rfl) ?_)
    refine E_has (l := [(0, (eInt .i64 a0))]) (.eq (by kernel_rfl)) ?_
    refine E_done (thenA_normal (?_))
    refine C_seq (by kernel_rfl) ?_
    refine A_cl (C_region ttOk (n := 2) (by kernel_rfl) (by kernel_rfl) ?_)
    refine R_all (Ds := []) (by kernel_rfl) trivial ?_
    refine E_has (l := [(4, (eInt .i64 a0))]) (.eq (by kernel_rfl)) ?_
    refine E_done (thenA_normal (?_))
    refine A_cl (C_ret (by kernel_rfl) ?_)
    refine E_has (l := [(4, (eInt .i64 a0))]) (.eq (by kernel_rfl)) ?_
    obtain rfl := Option.some.inj h0
    exact E_done (Q_ret (x := (eInt .i64 a0)) (by kernel_rfl) (SubV.refl _) ⟨rfl, hO.out⟩)

theorem w_step_Where (f0 : (List api_Jump)) (g1 : (List api_Jump)) (r : ((List api_Jump) × Int)) (h0 : s_step_Where f0 g1 = some r) : Fine Try.prog 21 [(eL e_api_Jump f0), (eL e_api_Jump g1)] (.tup [(eL e_api_Jump r.1), (eInt .i64 r.2)]) := by
  intro H0
  refine F_walk Try.func21 (by kernel_rfl) (by kernel_rfl) (by kernel_rfl) ?_
  have hO := Owns.start H0
  unfold s_step_Where at h0
  refine C_seq (by kernel_rfl) ?_
  refine A_cl (C_region ttOk (n := 2) (by kernel_rfl) (by kernel_rfl) ?_)
  refine R_all (Ds := []) (by kernel_rfl) trivial ?_
  refine E_has (l := [(0, (eL e_api_Jump f0)), (1, (eL e_api_Jump g1))]) (.eq (by kernel_rfl)) ?_
  refine E_done (thenA_normal (?_))
  refine C_seq (by kernel_rfl) ?_
  refine A_cl (C_region ttOk (n := 7) (by kernel_rfl) (by kernel_rfl) ?_)
  refine R_pure 2 (by kernel_rfl) (Ds := []) (by kernel_rfl) trivial ?_
  obtain ⟨x1, hx2, h0⟩ := bindE h0
  refine R_callO [] 43 [(eL e_api_Jump f0), (eL e_api_Jump g1), (.fn (.func 47) [] [])] (.tup [(eL e_api_Jump x1.1), (eInt .i64 x1.2)]) true (by kernel_rfl) (by kernel_rfl) (by kernel_rfl) (fun hb3 => (w_step_both f0 g1 47 [] [] (fun y0 y1 => s_step_Where_1 y0 y1) (fun y0 y1 r h => w_step_Where_1 y0 y1 r h) _ hx2)) hO ?_
  intro H hO
  refine R_all (Ds := []) (by kernel_rfl) trivial ?_
  refine E_has (l := [(4, (eL e_api_Jump x1.1)), (5, (eInt .i64 x1.2))]) (.eq (by kernel_rfl)) ?_
  refine E_done (thenA_normal (?_))
  refine A_cl (C_ret (by kernel_rfl) ?_)
  refine E_has (l := [(4, (eL e_api_Jump x1.1)), (5, (eInt .i64 x1.2))]) (.eq (by kernel_rfl)) ?_
  obtain rfl := Option.some.inj h0
  exact E_done (Q_ret (x := (.tup [(eL e_api_Jump x1.1), (eInt .i64 x1.2)])) (by kernel_rfl) (SubV.refl _) ⟨rfl, hO.out⟩)

theorem w_step_Neg_1 (a0 : Int) (t1 : Int) (r : Int) (h0 : s_step_Neg_1 a0 t1 = some r) : Fine Try.prog 48 [(eInt .i64 a0), (eInt .i64 t1)] (eInt .i64 r) := by
  intro H0
  refine F_walk Try.func48 (by kernel_rfl) (by kernel_rfl) (by kernel_rfl) ?_
  have hO := Owns.start H0
  unfold s_step_Neg_1 at h0
  refine C_seq (by kernel_rfl) ?_
  refine A_cl (C_region ttOk (n := 1) (by kernel_rfl) (by kernel_rfl) ?_)
  refine R_all (Ds := []) (by kernel_rfl) trivial ?_
  refine E_has (l := [(0, (eInt .i64 a0))]) (.eq (by kernel_rfl)) ?_
  refine E_done (thenA_normal (?_))
  refine C_seq (by kernel_rfl) ?_
  refine A_cl (C_region ttOk (n := 3) (by kernel_rfl) (by kernel_rfl) ?_)
  refine R_all (Ds := []) (by kernel_rfl) trivial ?_
  refine E_has (l := [(4, (eInt .i64 (IntKind.i64.wrap (0 - a0))))]) (.eq (by kernel_rfl)) ?_
  refine E_done (thenA_normal (?_))
  refine A_cl (C_ret (by kernel_rfl) ?_)
  refine E_has (l := [(4, (eInt .i64 (IntKind.i64.wrap (0 - a0))))]) (.eq (by kernel_rfl)) ?_
  obtain rfl := Option.some.inj h0
  exact E_done (Q_ret (x := (eInt .i64 (IntKind.i64.wrap (0 - a0)))) (by kernel_rfl) (SubV.refl _) ⟨rfl, hO.out⟩)

theorem w_step_Neg (f0 : (List api_Jump)) (r : ((List api_Jump) × Int)) (h0 : s_step_Neg f0 = some r) : Fine Try.prog 22 [(eL e_api_Jump f0)] (.tup [(eL e_api_Jump r.1), (eInt .i64 r.2)]) := by
  intro H0
  refine F_walk Try.func22 (by kernel_rfl) (by kernel_rfl) (by kernel_rfl) ?_
  have hO := Owns.start H0
  unfold s_step_Neg at h0
  refine C_seq (by kernel_rfl) ?_
  refine A_cl (C_region ttOk (n := 2) (by kernel_rfl) (by kernel_rfl) ?_)
  refine R_all (Ds := []) (by kernel_rfl) trivial ?_
  refine E_has (l := [(0, (eL e_api_Jump f0))]) (.eq (by kernel_rfl)) ?_
  refine E_done (thenA_normal (?_))
  refine C_seq (by kernel_rfl) ?_
  refine A_cl (C_region ttOk (n := 6) (by kernel_rfl) (by kernel_rfl) ?_)
  refine R_pure 1 (by kernel_rfl) (Ds := []) (by kernel_rfl) trivial ?_
  obtain ⟨x1, hx2, h0⟩ := bindE h0
  refine R_callO [] 43 [(eL e_api_Jump f0), (.sl true 0 (fun _ => .bad)), (.fn (.func 48) [] [])] (.tup [(eL e_api_Jump x1.1), (eInt .i64 x1.2)]) true (by kernel_rfl) (by kernel_rfl) (by kernel_rfl) (fun hb3 => (Fine.sub (w_step_both f0 ([]) 48 [] [] (fun y0 y1 => s_step_Neg_1 y0 y1) (fun y0 y1 r h => w_step_Neg_1 y0 y1 r h) _ hx2) ⟨SubV.refl _, subNilL, SubV.refl _, trivial⟩)) hO ?_
  intro H hO
  refine R_all (Ds := []) (by kernel_rfl) trivial ?_
  refine E_has (l := [(2, (eL e_api_Jump x1.1)), (3, (eInt .i64 x1.2))]) (.eq (by kernel_rfl)) ?_
  refine E_done (thenA_normal (?_))
  refine A_cl (C_ret (by kernel_rfl) ?_)
  refine E_has (l := [(2, (eL e_api_Jump x1.1)), (3, (eInt .i64 x1.2))]) (.eq (by kernel_rfl)) ?_
  obtain rfl := Option.some.inj h0
  exact E_done (Q_ret (x := (.tup [(eL e_api_Jump x1.1), (eInt .i64 x1.2)])) (by kernel_rfl) (SubV.refl _) ⟨rfl, hO.out⟩)

theorem w_ref09_Neg (f0 : (List api_Jump)) (r : ((List api_Jump) × Int)) (h0 : s_ref09_Neg f0 = some r) : Fine Try.prog 23 [(eL e_api_Jump f0)] (.tup [(eL e_api_Jump r.1), (eInt .i64 r.2)]) := by
  intro H0
  refine F_walk Try.func23 (by kernel_rfl) (by kernel_rfl) (by kernel_rfl) ?_
  have hO := Owns.start H0
  unfold s_ref09_Neg at h0
  refine C_seq (by kernel_rfl) ?_
  refine A_cl (C_region ttOk (n := 2) (by kernel_rfl) (by kernel_rfl) ?_)
  refine R_all (Ds := []) (by kernel_rfl) trivial ?_
  refine E_has (l := [(0, (eL e_api_Jump f0))]) (.eq (by kernel_rfl)) ?_
  refine E_done (thenA_normal (?_))
  refine C_seq (by kernel_rfl) ?_
  refine C_seq (by kernel_rfl) ?_
  refine A_cl (C_region ttOk (n := 3) (by kernel_rfl) (by kernel_rfl) ?_)
  refine R_pure 1 (by kernel_rfl) (Ds := []) (by kernel_rfl) trivial ?_
  obtain ⟨x1, hx2, h0⟩ := bindE h0
  refine R_callO [] 16 [(eL e_api_Jump f0)] (eBool x1) true (by kernel_rfl) (by kernel_rfl) (by kernel_rfl) (fun hb3 => (w_ref09_May f0 _ hx2)) hO ?_
  intro H hO
  refine R_all (Ds := []) (by kernel_rfl) trivial ?_
  refine E_has (l := [(0, (eL e_api_Jump f0)), (8, (eBool (!x1)))]) (.eq (by kernel_rfl)) ?_
  refine E_done (thenA_normal (?_))
  refine C_cond (b := !x1) (by kernel_rfl) (by kernel_rfl) (fun hc15 => ?_) (fun hc15 => ?_)
  · replace h0 := condT hc15 h0
    refine C_seq (by kernel_rfl) ?_
    refine A_cl (C_region ttOk (n := 2) (by kernel_rfl) (by kernel_rfl) ?_)
    refine R_all (Ds := []) (by kernel_rfl) trivial ?_
    refine E_has (l := [(2, (.sl true 0 (fun _ => .bad))), (3, (eInt .i64 (2 : Int)))]) (.eq (by kernel_rfl)) ?_
    refine E_done (thenA_normal (?_))
    refine A_cl (C_ret (by kernel_rfl) ?_)
    refine E_has (l := [(2, (eL e_api_Jump ([]))), (3, (eInt .i64 (2 : Int)))]) ⟨[(2, (.sl true 0 (fun _ => .bad))), (3, (eInt .i64 (2 : Int)))], by kernel_rfl, rfl, ⟨subNilL, SubV.refl _, trivial⟩⟩ ?_
    obtain rfl := Option.some.inj h0
    exact E_done (thenA_ret (Q_ret (x := (.tup [(eL e_api_Jump ([])), (eInt .i64 (2 : Int))])) (by kernel_rfl) (SubV.refl _) ⟨rfl, hO.out⟩))
  · replace h0 := condF hc15 h0
    refine A_cl (C_skip (by kernel_rfl) ?_)
    refine E_has (l := [(0, (eL e_api_Jump f0))]) (.eq (by kernel_rfl)) ?_
    refine E_done (thenA_normal (?_))
    refine C_seq (by kernel_rfl) ?_
    refine A_cl (C_region ttOk (n := 2) (by kernel_rfl) (by kernel_rfl) ?_)
    refine R_bsl (xs := []) (k := 2) (by kernel_rfl) (by kernel_rfl) ?_
    refine R_all (Ds := []) (by kernel_rfl) trivial ?_
    refine E_has (l := [(0, (eL e_api_Jump f0)), (4, (.sl true 0 (fun _ => .bad)))]) (.eq (by kernel_rfl)) ?_
    refine E_done (thenA_normal (?_))
    refine C_seqJ (by kernel_rfl) (fun T H => ∃ g4 : List api_Jump, ∃ lo4 : Nat, Has T [(4, (.msl 2 lo4 0 (List.length g4)))] ∧ Owns ⟨H0, []⟩ H [(lo4, 2, List.map e_api_Jump g4)] ∧ ref09_Neg_j1 g4 = some r) ?_ ?_
    · clear hO h0
      rintro T H ⟨g4, lo4, hT, hO, h0⟩
      refine C_has hT ?_
      clear hT
      unfold ref09_Neg_j1 at h0
      refine C_seq (by kernel_rfl) ?_
      refine A_cl (C_region ttOk (n := 3) (by kernel_rfl) (by kernel_rfl) ?_)
      refine R_all (Ds := []) (by kernel_rfl) trivial ?_
      refine E_has (l := [(2, (.msl 2 lo4 0 (List.length g4))), (3, (eInt .i64 (0 : Int)))]) (.eq (by kernel_rfl)) ?_
      refine E_done (thenA_normal (?_))
      refine A_cl (C_ret (by kernel_rfl) ?_)
      refine E_has (l := [(2, (.msl 2 lo4 0 (List.length g4))), (3, (eInt .i64 (0 : Int)))]) (.eq (by kernel_rfl)) ?_
      refine E_freezeO (en := e_api_Jump) g4 0 0 2 2 lo4 (List.length g4) hO (by kernel_rfl) (by kernel_rfl) (by kernel_rfl) (L' := []) (by kernel_rfl) ?_
      intro H5 hO
      obtain rfl := Option.some.inj h0
      exact E_done (Q_ret (x := (.tup [(eL e_api_Jump g4), (eInt .i64 (0 : Int))])) (by kernel_rfl) (SubV.refl _) ⟨rfl, hO.out⟩)
    · refine C_seq (by kernel_rfl) ?_
      refine A_cl (C_region ttOk (n := 1) (by kernel_rfl) (by kernel_rfl) ?_)
      refine R_all (Ds := []) (by kernel_rfl) trivial ?_
      refine E_has (l := [(0, (eL e_api_Jump f0)), (4, (.sl true 0 (fun _ => .bad))), (5, (eInt .i64 (0 : Int)))]) (.eq (by kernel_rfl)) ?_
      refine E_done (thenA_normal (?_))
      refine C_block (id := 0) (by kernel_rfl) (by kernel_rfl) ?_
      refine C_has (l := [(0, (eL e_api_Jump f0)), (4, (.sl true 0 (fun _ => .bad))), (5, (eInt .i64 (0 : Int)))]) (.eq (by kernel_rfl)) ?_
      refine C_ownO (el := (fun _ => .bad)) 1 4 2 hO (by kernel_rfl) ?_
      intro lo13 H14 hO
      refine C_cut (fun T H => ∃ g4 : List api_Jump, ∃ i5 : Int, ∃ lo7 : Nat, Has T [(0, (eL e_api_Jump f0)), (4, (.msl 2 lo7 0 (List.length g4))), (5, (eInt .i64 i5))] ∧ Owns ⟨H0, []⟩ H [(lo7, 2, List.map e_api_Jump g4)] ∧ ref09_Neg_h2 f0 g4 i5 = some r) ?_ ⟨([] : List api_Jump), (0 : Int), lo13, .eq (by kernel_rfl), hO, h0⟩
      clear hO h0
      rintro T H ⟨g4, i5, lo7, hT, hO, h0⟩
      refine C_has hT ?_
      clear hT
      unfold ref09_Neg_h2 at h0
      obtain ⟨rr0, hl0, h0⟩ := bindE h0
      refine C_loopS (by kernel_rfl) (fun (s : List api_Jump × Int) T H => ∃ lo7 : Nat, Has T [(0, (eL e_api_Jump f0)), (4, (.msl 2 lo7 0 (List.length s.1))), (5, (eInt .i64 s.2))] ∧ Owns ⟨H0, []⟩ H [(lo7, 2, List.map e_api_Jump s.1)]) hl0 ⟨lo7, .eq (by kernel_rfl), hO⟩ ?_
      clear hO
      rintro k0 s out1 T H ⟨lo7, hT, hO⟩ h1 ho0
      obtain ⟨g4, i5⟩ := s
      replace h1 : ref09_Neg_l2 f0 g4 i5 = some out1 := h1
      refine C_has (l := [(0, (eL e_api_Jump f0)), (4, (.msl 2 lo7 0 (List.length g4))), (5, (eInt .i64 i5))]) hT ?_
      clear hT
      unfold ref09_Neg_l2 at h1
      refine C_seq (by kernel_rfl) ?_
      refine C_seq (by kernel_rfl) ?_
      refine A_cl (C_region ttOk (n := 4) (by kernel_rfl) (by kernel_rfl) ?_)
      refine R_all (Ds := []) (by kernel_rfl) trivial ?_
      refine E_has (l := [(0, (eL e_api_Jump f0)), (4, (.msl 2 lo7 0 (List.length g4))), (5, (eInt .i64 i5)), (13, (eBool (decide (i5 < ((List.length f0 : Nat) : Int)))))]) (.eq (by kernel_rfl)) ?_
      refine E_done (thenA_normal (?_))
      refine C_cond (b := decide (i5 < ((List.length f0 : Nat) : Int))) (by kernel_rfl) (by kernel_rfl) (fun hc12 => ?_) (fun hc12 => ?_)
      · replace h1 := condT hc12 h1
        refine A_cl (C_skip (by kernel_rfl) ?_)
        refine E_has (l := [(0, (eL e_api_Jump f0)), (4, (.msl 2 lo7 0 (List.length g4))), (5, (eInt .i64 i5))]) (.eq (by kernel_rfl)) ?_
        refine E_done (thenA_normal (?_))
        refine C_seq (by kernel_rfl) ?_
        refine C_block (id := 1) (by kernel_rfl) (by kernel_rfl) ?_
        refine A_cl (C_draw ttOk (by kernel_rfl) (n := 16) (by kernel_rfl) (by kernel_rfl) (by kernel_rfl) ?_)
        obtain ⟨c8, h1⟩ := asrtE h1
        obtain ⟨c9, h1⟩ := asrtE h1
        refine D_pure 13 (by kernel_rfl) (Ds := [0 ≤ i5 ∧ i5 < ((List.length f0 : Nat) : Int), 0 ≤ i5 ∧ i5 < ((List.length f0 : Nat) : Int)]) (by kernel_rfl) ⟨c8, c9, trivial⟩ ?_
        refine D_bsl (xs := [(e_api_Jump (api_Jump.mk ((List.getD f0 (Int.toNat i5) default).At) (IntKind.i64.wrap (0 - ((List.getD f0 (Int.toNat i5) default).Net)))))]) (k := 2) (by kernel_rfl) (by kernel_rfl) ?_
        obtain ⟨c11, h1⟩ := asrtE h1
        refine D_appOL (e := e_api_Jump) g4 ([api_Jump.mk ((List.getD f0 (Int.toNat i5) default).At) (IntKind.i64.wrap (0 - ((List.getD f0 (Int.toNat i5) default).Net)))]) 0 lo7 2 16 (frozenOf [(e_api_Jump (api_Jump.mk ((List.getD f0 (Int.toNat i5) default).At) (IntKind.i64.wrap (0 - ((List.getD f0 (Int.toNat i5) default).Net)))))]) (fun lo10 => [(lo10, 2, List.map e_api_Jump (g4 ++ ([api_Jump.mk ((List.getD f0 (Int.toNat i5) default).At) (IntKind.i64.wrap (0 - ((List.getD f0 (Int.toNat i5) default).Net)))])))]) (by kernel_rfl) (by kernel_rfl) hO (by kernel_rfl) (by kernel_rfl) c11 (fun _ => by kernel_rfl) ?_
        intro lo10 H hO
        refine D_all (Ds := []) (by kernel_rfl) trivial ?_
        refine E_has (l := [(0, (eL e_api_Jump f0)), (4, (.msl 2 lo10 0 (List.length (g4 ++ ([api_Jump.mk ((List.getD f0 (Int.toNat i5) default).At) (IntKind.i64.wrap (0 - ((List.getD f0 (Int.toNat i5) default).Net)))]))))), (5, (eInt .i64 i5))]) (.eq (by kernel_rfl)) ?_
        refine E_done (blockA_normal (thenA_normal (?_)))
        refine A_cl (C_region ttOk (n := 3) (by kernel_rfl) (by kernel_rfl) ?_)
        refine R_all (Ds := []) (by kernel_rfl) trivial ?_
        refine E_has (l := [(0, (eL e_api_Jump f0)), (4, (.msl 2 lo10 0 (List.length (g4 ++ ([api_Jump.mk ((List.getD f0 (Int.toNat i5) default).At) (IntKind.i64.wrap (0 - ((List.getD f0 (Int.toNat i5) default).Net)))]))))), (5, (eInt .i64 (IntKind.i64.wrap (i5 + (1 : Int)))))]) (.eq (by kernel_rfl)) ?_
        exact E_done (thenA_normal (⟨rfl, (g4 ++ ([api_Jump.mk ((List.getD f0 (Int.toNat i5) default).At) (IntKind.i64.wrap (0 - ((List.getD f0 (Int.toNat i5) default).Net)))]), IntKind.i64.wrap (i5 + (1 : Int))), (Option.some.inj h1).symm, lo10, .eq (by kernel_rfl), hO⟩))
      · replace h1 := condF hc12 h1
        refine A_cl (C_exit (id := 0) (by kernel_rfl) (by kernel_rfl) ?_)
        refine E_has (l := [(4, (.msl 2 lo7 0 (List.length g4)))]) (.eq (by kernel_rfl)) ?_
        obtain rfl := Option.some.inj h1
        obtain rfl : _ = rr0 := ho0
        replace h0 : ref09_Neg_j1 g4 = some r := h0
        exact E_done (thenA_exit (thenA_exit (blockA_hit (thenA_normal (⟨rfl, g4, lo7, .eq (by kernel_rfl), hO, h0⟩)))))

theorem w_law09_StepTwo (f0 : (List api_Jump)) (g1 : (List api_Jump)) (r : Bool) (h0 : s_law09_StepTwo f0 g1 = some r) : Fine Try.prog 6 [(eL e_api_Jump f0), (eL e_api_Jump g1)] (eBool r) := by
  intro H0
  refine F_walk Try.func6 (by kernel_rfl) (by kernel_rfl) (by kernel_rfl) ?_
  have hO := Owns.start H0
  unfold s_law09_StepTwo at h0
  refine C_seq (by kernel_rfl) ?_
  refine A_cl (C_region ttOk (n := 1) (by kernel_rfl) (by kernel_rfl) ?_)
  refine R_all (Ds := []) (by kernel_rfl) trivial ?_
  refine E_has (l := [(0, (eL e_api_Jump f0)), (1, (eL e_api_Jump g1))]) (.eq (by kernel_rfl)) ?_
  refine E_done (thenA_normal (?_))
  refine C_seq (by kernel_rfl) ?_
  refine C_seq (by kernel_rfl) ?_
  refine A_cl (C_region ttOk (n := 8) (by kernel_rfl) (by kernel_rfl) ?_)
  refine R_pure 1 (by kernel_rfl) (Ds := []) (by kernel_rfl) trivial ?_
  obtain ⟨x1, hx2, h0⟩ := bindE h0
  refine R_callO [] 10 [(eL e_api_Jump f0)] (eBool x1) true (by kernel_rfl) (by kernel_rfl) (by kernel_rfl) (fun hb3 => (w_law09_few f0 _ hx2)) hO ?_
  intro H hO
  refine R_pure 5 (by kernel_rfl) (Ds := []) (by kernel_rfl) trivial ?_
  obtain ⟨x4, hx5, h0⟩ := bindE h0
  refine R_callO [(12, false)] 10 [(eL e_api_Jump g1)] (eBool x4) (!(!x1)) (by kernel_rfl) (by kernel_rfl) (by kernel_rfl) (fun hb6 => (w_law09_few g1 _ (gcallE hx5 hb6))) hO ?_
  intro H hO
  refine R_all (Ds := []) (by kernel_rfl) trivial ?_
  refine E_has (l := [(0, (eL e_api_Jump f0)), (1, (eL e_api_Jump g1)), (16, (eBool ((!x1) || (!x4))))]) (.eq (by kernel_rfl)) ?_
  refine E_done (thenA_normal (?_))
  refine C_cond (b := (!x1) || (!x4)) (by kernel_rfl) (by kernel_rfl) (fun hc52 => ?_) (fun hc52 => ?_)
  · replace h0 := condT hc52 h0
    refine C_seq (by kernel_rfl) ?_
    refine A_cl (C_region ttOk (n := 2) (by kernel_rfl) (by kernel_rfl) ?_)
    obtain ⟨x7, hx8, h0⟩ := bindE h0
    refine R_callO [] 11 [] (eBool x7) true (by kernel_rfl) (by kernel_rfl) (by kernel_rfl) (fun hb9 => (w_law09_live  _ hx8)) hO ?_
    intro H hO
    refine R_all (Ds := []) (by kernel_rfl) trivial ?_
    refine E_has (l := [(4, (eBool x7))]) (.eq (by kernel_rfl)) ?_
    refine E_done (thenA_normal (?_))
    refine A_cl (C_ret (by kernel_rfl) ?_)
    refine E_has (l := [(4, (eBool x7))]) (.eq (by kernel_rfl)) ?_
    obtain rfl := Option.some.inj h0
    exact E_done (thenA_ret (Q_ret (x := (eBool x7)) (by kernel_rfl) (SubV.refl _) ⟨rfl, hO.out⟩))
  · replace h0 := condF hc52 h0
    refine A_cl (C_skip (by kernel_rfl) ?_)
    refine E_has (l := [(0, (eL e_api_Jump f0)), (1, (eL e_api_Jump g1))]) (.eq (by kernel_rfl)) ?_
    refine E_done (thenA_normal (?_))
    refine C_seq (by kernel_rfl) ?_
    refine A_cl (C_region ttOk (n := 8) (by kernel_rfl) (by kernel_rfl) ?_)
    refine R_pure 2 (by kernel_rfl) (Ds := []) (by kernel_rfl) trivial ?_
    obtain ⟨x10, hx11, h0⟩ := bindE h0
    refine R_callO [] 17 [(eL e_api_Jump f0), (eL e_api_Jump g1)] (.tup [(eL e_api_Jump x10.1), (eInt .i64 x10.2)]) true (by kernel_rfl) (by kernel_rfl) (by kernel_rfl) (fun hb12 => (w_step_Add f0 g1 _ hx11)) hO ?_
    intro H hO
    refine R_all (Ds := []) (by kernel_rfl) trivial ?_
    refine E_has (l := [(0, (eL e_api_Jump f0)), (1, (eL e_api_Jump g1)), (5, (eL e_api_Jump x10.1)), (6, (eInt .i64 x10.2))]) (.eq (by kernel_rfl)) ?_
    refine E_done (thenA_normal (?_))
    refine C_seq (by kernel_rfl) ?_
    refine A_cl (C_region ttOk (n := 8) (by kernel_rfl) (by kernel_rfl) ?_)
    refine R_pure 2 (by kernel_rfl) (Ds := []) (by kernel_rfl) trivial ?_
    obtain ⟨x13, hx14, h0⟩ := bindE h0
    refine R_callO [] 20 [(eL e_api_Jump f0), (eL e_api_Jump g1), (eInt .i64 (0 : Int))] (.tup [(eL e_api_Jump x13.1), (eInt .i64 x13.2)]) true (by kernel_rfl) (by kernel_rfl) (by kernel_rfl) (fun hb15 => (w_ref09_Two f0 g1 (0 : Int) _ hx14)) hO ?_
    intro H hO
    refine R_all (Ds := []) (by kernel_rfl) trivial ?_
    refine E_has (l := [(0, (eL e_api_Jump f0)), (1, (eL e_api_Jump g1)), (5, (eL e_api_Jump x10.1)), (6, (eInt .i64 x10.2)), (7, (eL e_api_Jump x13.1)), (8, (eInt .i64 x13.2))]) (.eq (by kernel_rfl)) ?_
    refine E_done (thenA_normal (?_))
    refine C_seq (by kernel_rfl) ?_
    refine C_seq (by kernel_rfl) ?_
    refine A_cl (C_region ttOk (n := 9) (by kernel_rfl) (by kernel_rfl) ?_)
    refine R_pure 6 (by kernel_rfl) (Ds := []) (by kernel_rfl) trivial ?_
    obtain ⟨x16, hx17, h0⟩ := bindE h0
    refine R_callO [(33, false)] 14 [(eL e_api_Jump x10.1), (eL e_api_Jump x13.1)] (eBool x16) (!(!decide (x10.2 = x13.2))) (by kernel_rfl) (by kernel_rfl) (by kernel_rfl) (fun hb18 => (w_ref09_Same x10.1 x13.1 _ (gcallE hx17 hb18))) hO ?_
    intro H hO
    refine R_all (Ds := []) (by kernel_rfl) trivial ?_
    refine E_has (l := [(0, (eL e_api_Jump f0)), (1, (eL e_api_Jump g1)), (38, (eBool ((!decide (x10.2 = x13.2)) || (!x16))))]) (.eq (by kernel_rfl)) ?_
    refine E_done (thenA_normal (?_))
    refine C_cond (b := (!decide (x10.2 = x13.2)) || (!x16)) (by kernel_rfl) (by kernel_rfl) (fun hc51 => ?_) (fun hc51 => ?_)
    · replace h0 := condT hc51 h0
      refine C_seq (by kernel_rfl) ?_
      refine A_cl (C_region ttOk (n := 1) (by kernel_rfl) (by kernel_rfl) ?_)
      refine R_all (Ds := []) (by kernel_rfl) trivial ?_
      refine E_has (l := [(4, (eBool false))]) (.eq (by kernel_rfl)) ?_
      refine E_done (thenA_normal (?_))
      refine A_cl (C_ret (by kernel_rfl) ?_)
      refine E_has (l := [(4, (eBool false))]) (.eq (by kernel_rfl)) ?_
      obtain rfl := Option.some.inj h0
      exact E_done (thenA_ret (Q_ret (x := (eBool false)) (by kernel_rfl) (SubV.refl _) ⟨rfl, hO.out⟩))
    · replace h0 := condF hc51 h0
      refine A_cl (C_skip (by kernel_rfl) ?_)
      refine E_has (l := [(0, (eL e_api_Jump f0)), (1, (eL e_api_Jump g1))]) (.eq (by kernel_rfl)) ?_
      refine E_done (thenA_normal (?_))
      refine C_seq (by kernel_rfl) ?_
      refine A_cl (C_region ttOk (n := 8) (by kernel_rfl) (by kernel_rfl) ?_)
      refine R_pure 2 (by kernel_rfl) (Ds := []) (by kernel_rfl) trivial ?_
      obtain ⟨x19, hx20, h0⟩ := bindE h0
      refine R_callO [] 18 [(eL e_api_Jump f0), (eL e_api_Jump g1)] (.tup [(eL e_api_Jump x19.1), (eInt .i64 x19.2)]) true (by kernel_rfl) (by kernel_rfl) (by kernel_rfl) (fun hb21 => (w_step_Mul f0 g1 _ hx20)) hO ?_
      intro H hO
      refine R_all (Ds := []) (by kernel_rfl) trivial ?_
      refine E_has (l := [(0, (eL e_api_Jump f0)), (1, (eL e_api_Jump g1)), (5, (eL e_api_Jump x19.1)), (6, (eInt .i64 x19.2))]) (.eq (by kernel_rfl)) ?_
      refine E_done (thenA_normal (?_))
      refine C_seq (by kernel_rfl) ?_
      refine A_cl (C_region ttOk (n := 8) (by kernel_rfl) (by kernel_rfl) ?_)
      refine R_pure 2 (by kernel_rfl) (Ds := []) (by kernel_rfl) trivial ?_
      obtain ⟨x22, hx23, h0⟩ := bindE h0
      refine R_callO [] 20 [(eL e_api_Jump f0), (eL e_api_Jump g1), (eInt .i64 (1 : Int))] (.tup [(eL e_api_Jump x22.1), (eInt .i64 x22.2)]) true (by kernel_rfl) (by kernel_rfl) (by kernel_rfl) (fun hb24 => (w_ref09_Two f0 g1 (1 : Int) _ hx23)) hO ?_
      intro H hO
      refine R_all (Ds := []) (by kernel_rfl) trivial ?_
      refine E_has (l := [(0, (eL e_api_Jump f0)), (1, (eL e_api_Jump g1)), (5, (eL e_api_Jump x19.1)), (6, (eInt .i64 x19.2)), (7, (eL e_api_Jump x22.1)), (8, (eInt .i64 x22.2))]) (.eq (by kernel_rfl)) ?_
      refine E_done (thenA_normal (?_))
      refine C_seq (by kernel_rfl) ?_
      refine C_seq (by kernel_rfl) ?_
      refine A_cl (C_region ttOk (n := 9) (by kernel_rfl) (by kernel_rfl) ?_)
      refine R_pure 6 (by kernel_rfl) (Ds := []) (by kernel_rfl) trivial ?_
      obtain ⟨x25, hx26, h0⟩ := bindE h0
      refine R_callO [(54, false)] 14 [(eL e_api_Jump x19.1), (eL e_api_Jump x22.1)] (eBool x25) (!(!decide (x19.2 = x22.2))) (by kernel_rfl) (by kernel_rfl) (by kernel_rfl) (fun hb27 => (w_ref09_Same x19.1 x22.1 _ (gcallE hx26 hb27))) hO ?_
      intro H hO
      refine R_all (Ds := []) (by kernel_rfl) trivial ?_
      refine E_has (l := [(0, (eL e_api_Jump f0)), (1, (eL e_api_Jump g1)), (59, (eBool ((!decide (x19.2 = x22.2)) || (!x25))))]) (.eq (by kernel_rfl)) ?_
      refine E_done (thenA_normal (?_))
      refine C_cond (b := (!decide (x19.2 = x22.2)) || (!x25)) (by kernel_rfl) (by kernel_rfl) (fun hc50 => ?_) (fun hc50 => ?_)
      · replace h0 := condT hc50 h0
        refine C_seq (by kernel_rfl) ?_
        refine A_cl (C_region ttOk (n := 1) (by kernel_rfl) (by kernel_rfl) ?_)
        refine R_all (Ds := []) (by kernel_rfl) trivial ?_
        refine E_has (l := [(4, (eBool false))]) (.eq (by kernel_rfl)) ?_
        refine E_done (thenA_normal (?_))
        refine A_cl (C_ret (by kernel_rfl) ?_)
        refine E_has (l := [(4, (eBool false))]) (.eq (by kernel_rfl)) ?_
        obtain rfl := Option.some.inj h0
        exact E_done (thenA_ret (Q_ret (x := (eBool false)) (by kernel_rfl) (SubV.refl _) ⟨rfl, hO.out⟩))
      · replace h0 := condF hc50 h0
        refine A_cl (C_skip (by kernel_rfl) ?_)
        refine E_has (l := [(0, (eL e_api_Jump f0)), (1, (eL e_api_Jump g1))]) (.eq (by kernel_rfl)) ?_
        refine E_done (thenA_normal (?_))
        refine C_seq (by kernel_rfl) ?_
        refine A_cl (C_region ttOk (n := 8) (by kernel_rfl) (by kernel_rfl) ?_)
        refine R_pure 2 (by kernel_rfl) (Ds := []) (by kernel_rfl) trivial ?_
        obtain ⟨x28, hx29, h0⟩ := bindE h0
        refine R_callO [] 21 [(eL e_api_Jump f0), (eL e_api_Jump g1)] (.tup [(eL e_api_Jump x28.1), (eInt .i64 x28.2)]) true (by kernel_rfl) (by kernel_rfl) (by kernel_rfl) (fun hb30 => (w_step_Where f0 g1 _ hx29)) hO ?_
        intro H hO
        refine R_all (Ds := []) (by kernel_rfl) trivial ?_
        refine E_has (l := [(0, (eL e_api_Jump f0)), (1, (eL e_api_Jump g1)), (5, (eL e_api_Jump x28.1)), (6, (eInt .i64 x28.2))]) (.eq (by kernel_rfl)) ?_
        refine E_done (thenA_normal (?_))
        refine C_seq (by kernel_rfl) ?_
        refine A_cl (C_region ttOk (n := 8) (by kernel_rfl) (by kernel_rfl) ?_)
        refine R_pure 2 (by kernel_rfl) (Ds := []) (by kernel_rfl) trivial ?_
        obtain ⟨x31, hx32, h0⟩ := bindE h0
        refine R_callO [] 20 [(eL e_api_Jump f0), (eL e_api_Jump g1), (eInt .i64 (2 : Int))] (.tup [(eL e_api_Jump x31.1), (eInt .i64 x31.2)]) true (by kernel_rfl) (by kernel_rfl) (by kernel_rfl) (fun hb33 => (w_ref09_Two f0 g1 (2 : Int) _ hx32)) hO ?_
        intro H hO
        refine R_all (Ds := []) (by kernel_rfl) trivial ?_
        refine E_has (l := [(0, (eL e_api_Jump f0)), (5, (eL e_api_Jump x28.1)), (6, (eInt .i64 x28.2)), (7, (eL e_api_Jump x31.1)), (8, (eInt .i64 x31.2))]) (.eq (by kernel_rfl)) ?_
        refine E_done (thenA_normal (?_))
        refine C_seq (by kernel_rfl) ?_
        refine C_seq (by kernel_rfl) ?_
        refine A_cl (C_region ttOk (n := 9) (by kernel_rfl) (by kernel_rfl) ?_)
        refine R_pure 6 (by kernel_rfl) (Ds := []) (by kernel_rfl) trivial ?_
        obtain ⟨x34, hx35, h0⟩ := bindE h0
        refine R_callO [(75, false)] 14 [(eL e_api_Jump x28.1), (eL e_api_Jump x31.1)] (eBool x34) (!(!decide (x28.2 = x31.2))) (by kernel_rfl) (by kernel_rfl) (by kernel_rfl) (fun hb36 => (w_ref09_Same x28.1 x31.1 _ (gcallE hx35 hb36))) hO ?_
        intro H hO
        refine R_all (Ds := []) (by kernel_rfl) trivial ?_
        refine E_has (l := [(0, (eL e_api_Jump f0)), (80, (eBool ((!decide (x28.2 = x31.2)) || (!x34))))]) (.eq (by kernel_rfl)) ?_
        refine E_done (thenA_normal (?_))
        refine C_cond (b := (!decide (x28.2 = x31.2)) || (!x34)) (by kernel_rfl) (by kernel_rfl) (fun hc49 => ?_) (fun hc49 => ?_)
        · replace h0 := condT hc49 h0
          refine C_seq (by kernel_rfl) ?_
          refine A_cl (C_region ttOk (n := 1) (by kernel_rfl) (by kernel_rfl) ?_)
          refine R_all (Ds := []) (by kernel_rfl) trivial ?_
          refine E_has (l := [(4, (eBool false))]) (.eq (by kernel_rfl)) ?_
          refine E_done (thenA_normal (?_))
          refine A_cl (C_ret (by kernel_rfl) ?_)
          refine E_has (l := [(4, (eBool false))]) (.eq (by kernel_rfl)) ?_
          obtain rfl := Option.some.inj h0
          exact E_done (thenA_ret (Q_ret (x := (eBool false)) (by kernel_rfl) (SubV.refl _) ⟨rfl, hO.out⟩))
        · replace h0 := condF hc49 h0
          refine A_cl (C_skip (by kernel_rfl) ?_)
          refine E_has (l := [(0, (eL e_api_Jump f0))]) (.eq (by kernel_rfl)) ?_
          refine E_done (thenA_normal (?_))
          refine C_seq (by kernel_rfl) ?_
          refine A_cl (C_region ttOk (n := 7) (by kernel_rfl) (by kernel_rfl) ?_)
          refine R_pure 1 (by kernel_rfl) (Ds := []) (by kernel_rfl) trivial ?_
          obtain ⟨x37, hx38, h0⟩ := bindE h0
          refine R_callO [] 22 [(eL e_api_Jump f0)] (.tup [(eL e_api_Jump x37.1), (eInt .i64 x37.2)]) true (by kernel_rfl) (by kernel_rfl) (by kernel_rfl) (fun hb39 => (w_step_Neg f0 _ hx38)) hO ?_
          intro H hO
          refine R_all (Ds := []) (by kernel_rfl) trivial ?_
          refine E_has (l := [(0, (eL e_api_Jump f0)), (5, (eL e_api_Jump x37.1)), (6, (eInt .i64 x37.2))]) (.eq (by kernel_rfl)) ?_
          refine E_done (thenA_normal (?_))
          refine C_seq (by kernel_rfl) ?_
          refine A_cl (C_region ttOk (n := 7) (by kernel_rfl) (by kernel_rfl) ?_)
          refine R_pure 1 (by kernel_rfl) (Ds := []) (by kernel_rfl) trivial ?_
          obtain ⟨x40, hx41, h0⟩ := bindE h0
          refine R_callO [] 23 [(eL e_api_Jump f0)] (.tup [(eL e_api_Jump x40.1), (eInt .i64 x40.2)]) true (by kernel_rfl) (by kernel_rfl) (by kernel_rfl) (fun hb42 => (w_ref09_Neg f0 _ hx41)) hO ?_
          intro H hO
          refine R_all (Ds := []) (by kernel_rfl) trivial ?_
          refine E_has (l := [(5, (eL e_api_Jump x37.1)), (6, (eInt .i64 x37.2)), (7, (eL e_api_Jump x40.1)), (8, (eInt .i64 x40.2))]) (.eq (by kernel_rfl)) ?_
          refine E_done (thenA_normal (?_))
          refine C_seq (by kernel_rfl) ?_
          refine A_cl (C_region ttOk (n := 12) (by kernel_rfl) (by kernel_rfl) ?_)
          obtain ⟨x43, hx44, h0⟩ := bindE h0
          refine R_callO [] 11 [] (eBool x43) true (by kernel_rfl) (by kernel_rfl) (by kernel_rfl) (fun hb45 => (w_law09_live  _ hx44)) hO ?_
          intro H hO
          refine R_pure 9 (by kernel_rfl) (Ds := []) (by kernel_rfl) trivial ?_
          obtain ⟨x46, hx47, h0⟩ := bindE h0
          refine R_callO [(97, true)] 14 [(eL e_api_Jump x37.1), (eL e_api_Jump x40.1)] (eBool x46) (x43 && (decide (x37.2 = x40.2))) (by kernel_rfl) (by kernel_rfl) (by kernel_rfl) (fun hb48 => (w_ref09_Same x37.1 x40.1 _ (gcallE hx47 hb48))) hO ?_
          intro H hO
          refine R_all (Ds := []) (by kernel_rfl) trivial ?_
          refine E_has (l := [(4, (eBool ((x43 && (decide (x37.2 = x40.2))) && x46)))]) (.eq (by kernel_rfl)) ?_
          refine E_done (thenA_normal (?_))
          refine A_cl (C_ret (by kernel_rfl) ?_)
          refine E_has (l := [(4, (eBool ((x43 && (decide (x37.2 = x40.2))) && x46)))]) (.eq (by kernel_rfl)) ?_
          obtain rfl := Option.some.inj h0
          exact E_done (Q_ret (x := (eBool ((x43 && (decide (x37.2 = x40.2))) && x46))) (by kernel_rfl) (SubV.refl _) ⟨rfl, hO.out⟩)

theorem w_ref09_At (f0 : (List api_Jump)) (t1 : Int) (r : Int) (h0 : s_ref09_At f0 t1 = some r) : Fine Try.prog 24 [(eL e_api_Jump f0), (eInt .i64 t1)] (eInt .i64 r) := by
  intro H0
  refine F_walk Try.func24 (by kernel_rfl) (by kernel_rfl) (by kernel_rfl) ?_
  have hO := Owns.start H0
  unfold s_ref09_At at h0
  refine C_seq (by kernel_rfl) ?_
  refine A_cl (C_region ttOk (n := 1) (by kernel_rfl) (by kernel_rfl) ?_)
  refine R_all (Ds := []) (by kernel_rfl) trivial ?_
  refine E_has (l := [(0, (eL e_api_Jump f0)), (1, (eInt .i64 t1))]) (.eq (by kernel_rfl)) ?_
  refine E_done (thenA_normal (?_))
  refine C_seq (by kernel_rfl) ?_
  refine C_seq (by kernel_rfl) ?_
  refine A_cl (C_region ttOk (n := 3) (by kernel_rfl) (by kernel_rfl) ?_)
  refine R_pure 1 (by kernel_rfl) (Ds := []) (by kernel_rfl) trivial ?_
  obtain ⟨x1, hx2, h0⟩ := bindE h0
  refine R_callO [] 16 [(eL e_api_Jump f0)] (eBool x1) true (by kernel_rfl) (by kernel_rfl) (by kernel_rfl) (fun hb3 => (w_ref09_May f0 _ hx2)) hO ?_
  intro H hO
  refine R_all (Ds := []) (by kernel_rfl) trivial ?_
  refine E_has (l := [(0, (eL e_api_Jump f0)), (1, (eInt .i64 t1)), (7, (eBool (!x1)))]) (.eq (by kernel_rfl)) ?_
  refine E_done (thenA_normal (?_))
  refine C_cond (b := !x1) (by kernel_rfl) (by kernel_rfl) (fun hc7 => ?_) (fun hc7 => ?_)
  · replace h0 := condT hc7 h0
    refine C_seq (by kernel_rfl) ?_
    refine A_cl (C_region ttOk (n := 1) (by kernel_rfl) (by kernel_rfl) ?_)
    refine R_all (Ds := []) (by kernel_rfl) trivial ?_
    refine E_has (l := [(4, (eInt .i64 (0 : Int)))]) (.eq (by kernel_rfl)) ?_
    refine E_done (thenA_normal (?_))
    refine A_cl (C_ret (by kernel_rfl) ?_)
    refine E_has (l := [(4, (eInt .i64 (0 : Int)))]) (.eq (by kernel_rfl)) ?_
    obtain rfl := Option.some.inj h0
    exact E_done (thenA_ret (Q_ret (x := (eInt .i64 (0 : Int))) (by kernel_rfl) (SubV.refl _) ⟨rfl, hO.out⟩))
  · replace h0 := condF hc7 h0
    refine A_cl (C_skip (by kernel_rfl) ?_)
    refine E_has (l := [(0, (eL e_api_Jump f0)), (1, (eInt .i64 t1))]) (.eq (by kernel_rfl)) ?_
    refine E_done (thenA_normal (?_))
    refine C_seq (by kernel_rfl) ?_
    refine A_cl (C_region ttOk (n := 4) (by kernel_rfl) (by kernel_rfl) ?_)
    refine R_pure 2 (by kernel_rfl) (Ds := []) (by kernel_rfl) trivial ?_
    obtain ⟨x4, hx5, h0⟩ := bindE h0
    refine R_callO [] 41 [(eL e_api_Jump f0), (eInt .i64 t1)] (eInt .i64 x4) true (by kernel_rfl) (by kernel_rfl) (by kernel_rfl) (fun hb6 => (w_ref09_Value f0 t1 _ hx5)) hO ?_
    intro H hO
    refine R_all (Ds := []) (by kernel_rfl) trivial ?_
    refine E_has (l := [(4, (eInt .i64 x4))]) (.eq (by kernel_rfl)) ?_
    refine E_done (thenA_normal (?_))
    refine A_cl (C_ret (by kernel_rfl) ?_)
    refine E_has (l := [(4, (eInt .i64 x4))]) (.eq (by kernel_rfl)) ?_
    obtain rfl := Option.some.inj h0
    exact E_done (Q_ret (x := (eInt .i64 x4)) (by kernel_rfl) (SubV.refl _) ⟨rfl, hO.out⟩)

theorem w_step_Least (f0 : (List api_Jump)) (r : Int) (h0 : s_step_Least f0 = some r) : Fine Try.prog 25 [(eL e_api_Jump f0)] (eInt .i64 r) := by
  intro H0
  refine F_walk Try.func25 (by kernel_rfl) (by kernel_rfl) (by kernel_rfl) ?_
  have hO := Owns.start H0
  unfold s_step_Least at h0
  refine C_seq (by kernel_rfl) ?_
  refine A_cl (C_region ttOk (n := 1) (by kernel_rfl) (by kernel_rfl) ?_)
  refine R_all (Ds := []) (by kernel_rfl) trivial ?_
  refine E_has (l := [(0, (eL e_api_Jump f0))]) (.eq (by kernel_rfl)) ?_
  refine E_done (thenA_normal (?_))
  refine C_seq (by kernel_rfl) ?_
  refine C_seq (by kernel_rfl) ?_
  refine A_cl (C_region ttOk (n := 8) (by kernel_rfl) (by kernel_rfl) ?_)
  refine R_pure 1 (by kernel_rfl) (Ds := []) (by kernel_rfl) trivial ?_
  obtain ⟨x1, hx2, h0⟩ := bindE h0
  refine R_callO [] 15 [(eL e_api_Jump f0)] (eBool x1) true (by kernel_rfl) (by kernel_rfl) (by kernel_rfl) (fun hb3 => (w_step_May f0 _ hx2)) hO ?_
  intro H hO
  refine R_all (Ds := []) (by kernel_rfl) trivial ?_
  refine E_has (l := [(0, (eL e_api_Jump f0)), (14, (eBool ((!x1) || (decide (((List.length f0 : Nat) : Int) = (0 : Int))))))]) (.eq (by kernel_rfl)) ?_
  refine E_done (thenA_normal (?_))
  refine C_cond (b := (!x1) || (decide (((List.length f0 : Nat) : Int) = (0 : Int)))) (by kernel_rfl) (by kernel_rfl) (fun hc10 => ?_) (fun hc10 => ?_)
  · replace h0 := condT hc10 h0
    refine C_seq (by kernel_rfl) ?_
    refine A_cl (C_region ttOk (n := 1) (by kernel_rfl) (by kernel_rfl) ?_)
    refine R_all (Ds := []) (by kernel_rfl) trivial ?_
    refine E_has (l := [(2, (eInt .i64 (0 : Int)))]) (.eq (by kernel_rfl)) ?_
    refine E_done (thenA_normal (?_))
    refine A_cl (C_ret (by kernel_rfl) ?_)
    refine E_has (l := [(2, (eInt .i64 (0 : Int)))]) (.eq (by kernel_rfl)) ?_
    obtain rfl := Option.some.inj h0
    exact E_done (thenA_ret (Q_ret (x := (eInt .i64 (0 : Int))) (by kernel_rfl) (SubV.refl _) ⟨rfl, hO.out⟩))
  · replace h0 := condF hc10 h0
    refine A_cl (C_skip (by kernel_rfl) ?_)
    refine E_has (l := [(0, (eL e_api_Jump f0))]) (.eq (by kernel_rfl)) ?_
    refine E_done (thenA_normal (?_))
    refine C_seq (by kernel_rfl) ?_
    refine A_cl (C_region ttOk (n := 2) (by kernel_rfl) (by kernel_rfl) ?_)
    refine R_all (Ds := []) (by kernel_rfl) trivial ?_
    refine E_has (l := [(0, (eL e_api_Jump f0)), (3, (eInt .i64 (0 : Int))), (4, (eInt .i64 (0 : Int)))]) (.eq (by kernel_rfl)) ?_
    refine E_done (thenA_normal (?_))
    refine C_seqJ (by kernel_rfl) (fun T H => ∃ v3 : Int, ∃ least4 : Int, Has T [(0, (eL e_api_Jump f0)), (3, (eInt .i64 v3)), (4, (eInt .i64 least4))] ∧ Owns ⟨H0, []⟩ H [] ∧ step_Least_j1 f0 v3 least4 = some r) ?_ ?_
    · clear hO h0
      rintro T H ⟨v3, least4, hT, hO, h0⟩
      refine C_has hT ?_
      clear hT
      unfold step_Least_j1 at h0
      refine C_seqJ (by kernel_rfl) (fun T H => ∃ least4 : Int, Has T [(4, (eInt .i64 least4))] ∧ Owns ⟨H0, []⟩ H [] ∧ step_Least_j2 least4 = some r) ?_ ?_
      · clear hO h0
        rintro T H ⟨least4, hT, hO, h0⟩
        refine C_has hT ?_
        clear hT
        unfold step_Least_j2 at h0
        refine C_seq (by kernel_rfl) ?_
        refine A_cl (C_region ttOk (n := 2) (by kernel_rfl) (by kernel_rfl) ?_)
        refine R_all (Ds := []) (by kernel_rfl) trivial ?_
        refine E_has (l := [(2, (eInt .i64 least4))]) (.eq (by kernel_rfl)) ?_
        refine E_done (thenA_normal (?_))
        refine A_cl (C_ret (by kernel_rfl) ?_)
        refine E_has (l := [(2, (eInt .i64 least4))]) (.eq (by kernel_rfl)) ?_
        obtain rfl := Option.some.inj h0
        exact E_done (Q_ret (x := (eInt .i64 least4)) (by kernel_rfl) (SubV.refl _) ⟨rfl, hO.out⟩)
      · refine C_seq (by kernel_rfl) ?_
        refine A_cl (C_region ttOk (n := 3) (by kernel_rfl) (by kernel_rfl) ?_)
        refine R_all (Ds := []) (by kernel_rfl) trivial ?_
        refine E_has (l := [(3, (eInt .i64 v3)), (4, (eInt .i64 least4)), (24, (eL e_api_Jump f0)), (25, (eInt .i64 ((List.length f0 : Nat) : Int))), (26, (eInt .i64 (0 : Int)))]) (.eq (by kernel_rfl)) ?_
        refine E_done (thenA_normal (?_))
        refine C_block (id := 0) (by kernel_rfl) (by kernel_rfl) ?_
        refine C_has (l := [(3, (eInt .i64 v3)), (4, (eInt .i64 least4)), (24, (eL e_api_Jump f0)), (25, (eInt .i64 ((List.length f0 : Nat) : Int))), (26, (eInt .i64 (0 : Int)))]) (.eq (by kernel_rfl)) ?_
        refine C_cut (fun T H => ∃ v3 : Int, ∃ least4 : Int, ∃ t24 : (List api_Jump), ∃ t25 : Int, ∃ t26 : Int, Has T [(3, (eInt .i64 v3)), (4, (eInt .i64 least4)), (24, (eL e_api_Jump t24)), (25, (eInt .i64 t25)), (26, (eInt .i64 t26))] ∧ Owns ⟨H0, []⟩ H [] ∧ step_Least_h3 v3 least4 t24 t25 t26 = some r) ?_ ⟨v3, least4, f0, ((List.length f0 : Nat) : Int), (0 : Int), .eq (by kernel_rfl), hO, h0⟩
        clear hO h0
        rintro T H ⟨v3, least4, t24, t25, t26, hT, hO, h0⟩
        refine C_has hT ?_
        clear hT
        unfold step_Least_h3 at h0
        obtain ⟨rr0, hl0, h0⟩ := bindE h0
        refine C_loopS (by kernel_rfl) (fun (s : Int × Int × Int) T H => Has T [(3, (eInt .i64 s.1)), (4, (eInt .i64 s.2.1)), (24, (eL e_api_Jump t24)), (25, (eInt .i64 t25)), (26, (eInt .i64 s.2.2))] ∧ Owns ⟨H0, []⟩ H []) hl0 ⟨.eq (by kernel_rfl), hO⟩ ?_
        clear hO
        rintro k0 s out1 T H ⟨hT, hO⟩ h1 ho0
        obtain ⟨v3, least4, t26⟩ := s
        replace h1 : step_Least_l3 t24 t25 v3 least4 t26 = some out1 := h1
        refine C_has (l := [(3, (eInt .i64 v3)), (4, (eInt .i64 least4)), (24, (eL e_api_Jump t24)), (25, (eInt .i64 t25)), (26, (eInt .i64 t26))]) hT ?_
        clear hT
        unfold step_Least_l3 at h1
        refine C_seq (by kernel_rfl) ?_
        refine A_cl (C_region ttOk (n := 1) (by kernel_rfl) (by kernel_rfl) ?_)
        refine R_all (Ds := []) (by kernel_rfl) trivial ?_
        refine E_has (l := [(3, (eInt .i64 v3)), (4, (eInt .i64 least4)), (24, (eL e_api_Jump t24)), (25, (eInt .i64 t25)), (26, (eInt .i64 t26)), (27, (eBool (decide (t26 < t25))))]) (.eq (by kernel_rfl)) ?_
        refine E_done (thenA_normal (?_))
        refine C_seq (by kernel_rfl) ?_
        refine C_cond (b := decide (t26 < t25)) (by kernel_rfl) (by kernel_rfl) (fun hc6 => ?_) (fun hc6 => ?_)
        · replace h1 := condT hc6 h1
          refine A_cl (C_skip (by kernel_rfl) ?_)
          refine E_has (l := [(3, (eInt .i64 v3)), (4, (eInt .i64 least4)), (24, (eL e_api_Jump t24)), (25, (eInt .i64 t25)), (26, (eInt .i64 t26))]) (.eq (by kernel_rfl)) ?_
          refine E_done (thenA_normal (?_))
          refine C_seq (by kernel_rfl) ?_
          refine C_block (id := 1) (by kernel_rfl) (by kernel_rfl) ?_
          refine C_seq (by kernel_rfl) ?_
          refine A_cl (C_region ttOk (n := 4) (by kernel_rfl) (by kernel_rfl) ?_)
          obtain ⟨c4, h1⟩ := asrtE h1
          refine R_pure 2 (by kernel_rfl) (Ds := [0 ≤ t26 ∧ t26 < ((List.length t24 : Nat) : Int)]) (by kernel_rfl) ⟨c4, trivial⟩ ?_
          refine R_allocO 2 (e_api_Jump (api_Jump.mk 0 0)) (by kernel_rfl) (by kernel_rfl) hO ?_
          intro lo5 H hO
          refine R_storeOL 0 lo5 2 0 (e_api_Jump (api_Jump.mk 0 0)) (e_api_Jump (List.getD t24 (Int.toNat t26) default)) [(e_api_Jump (api_Jump.mk 0 0))] [(lo5, 2, [(e_api_Jump (List.getD t24 (Int.toNat t26) default))])] (by kernel_rfl) (by kernel_rfl) (by kernel_rfl) hO (by kernel_rfl) rfl (by kernel_rfl) ?_
          intro H hO
          refine R_end (by kernel_rfl) ?_
          refine E_has (l := [(3, (eInt .i64 v3)), (4, (eInt .i64 least4)), (6, (.lp lo5 0 0)), (24, (eL e_api_Jump t24)), (25, (eInt .i64 t25)), (26, (eInt .i64 t26))]) (.eq (by kernel_rfl)) ?_
          refine E_done (thenA_normal (?_))
          refine C_seq (by kernel_rfl) ?_
          refine A_cl (C_region ttOk (n := 5) (by kernel_rfl) (by kernel_rfl) ?_)
          refine R_pure 2 (by kernel_rfl) (Ds := []) (by kernel_rfl) trivial ?_
          refine R_loadO [] 0 lo5 2 0 (e_api_Jump (List.getD t24 (Int.toNat t26) default)) (eInt .i64 ((List.getD t24 (Int.toNat t26) default).Net)) [(e_api_Jump (List.getD t24 (Int.toNat t26) default))] (by kernel_rfl) (by kernel_rfl) hO (by kernel_rfl) true (by kernel_rfl) (fun _ => rfl) ?_
          refine R_all (Ds := []) (by kernel_rfl) trivial ?_
          refine E_has (l := [(3, (eInt .i64 (IntKind.i64.wrap (v3 + ((List.getD t24 (Int.toNat t26) default).Net))))), (4, (eInt .i64 least4)), (24, (eL e_api_Jump t24)), (25, (eInt .i64 t25)), (26, (eInt .i64 t26))]) (.eq (by kernel_rfl)) ?_
          replace hO := hO.pick (L' := []) [] (by decide) (by kernel_rfl)
          refine E_done (thenA_normal (?_))
          refine A_cl (C_region ttOk (n := 4) (by kernel_rfl) (by kernel_rfl) ?_)
          refine R_all (Ds := []) (by kernel_rfl) trivial ?_
          refine E_has (l := [(3, (eInt .i64 (IntKind.i64.wrap (v3 + ((List.getD t24 (Int.toNat t26) default).Net))))), (4, (eInt .i64 (if (IntKind.i64.wrap (v3 + ((List.getD t24 (Int.toNat t26) default).Net))) < least4 then (IntKind.i64.wrap (v3 + ((List.getD t24 (Int.toNat t26) default).Net))) else least4))), (24, (eL e_api_Jump t24)), (25, (eInt .i64 t25)), (26, (eInt .i64 t26))]) (.eq (by kernel_rfl)) ?_
          refine E_done (blockA_normal (thenA_normal (?_)))
          refine A_cl (C_region ttOk (n := 2) (by kernel_rfl) (by kernel_rfl) ?_)
          refine R_all (Ds := []) (by kernel_rfl) trivial ?_
          refine E_has (l := [(3, (eInt .i64 (IntKind.i64.wrap (v3 + ((List.getD t24 (Int.toNat t26) default).Net))))), (4, (eInt .i64 (if (IntKind.i64.wrap (v3 + ((List.getD t24 (Int.toNat t26) default).Net))) < least4 then (IntKind.i64.wrap (v3 + ((List.getD t24 (Int.toNat t26) default).Net))) else least4))), (24, (eL e_api_Jump t24)), (25, (eInt .i64 t25)), (26, (eInt .i64 (IntKind.i64.wrap (t26 + (1 : Int)))))]) (.eq (by kernel_rfl)) ?_
          exact E_done (thenA_normal (⟨rfl, (IntKind.i64.wrap (v3 + ((List.getD t24 (Int.toNat t26) default).Net)), if (IntKind.i64.wrap (v3 + ((List.getD t24 (Int.toNat t26) default).Net))) < least4 then (IntKind.i64.wrap (v3 + ((List.getD t24 (Int.toNat t26) default).Net))) else least4, IntKind.i64.wrap (t26 + (1 : Int))), (Option.some.inj h1).symm, .eq (by kernel_rfl), hO⟩))
        · replace h1 := condF hc6 h1
          refine A_cl (C_exit (id := 0) (by kernel_rfl) (by kernel_rfl) ?_)
          refine E_has (l := [(4, (eInt .i64 least4))]) (.eq (by kernel_rfl)) ?_
          obtain rfl := Option.some.inj h1
          obtain rfl : _ = rr0 := ho0
          replace h0 : step_Least_j2 least4 = some r := h0
          exact E_done (thenA_exit (thenA_exit (blockA_hit (thenA_normal (⟨rfl, least4, .eq (by kernel_rfl), hO, h0⟩)))))
    · refine C_seq (by kernel_rfl) ?_
      refine A_cl (C_region ttOk (n := 5) (by kernel_rfl) (by kernel_rfl) ?_)
      obtain ⟨c7, h0⟩ := asrtE h0
      refine R_all (Ds := [0 ≤ (0 : Int) ∧ (0 : Int) < ((List.length f0 : Nat) : Int)]) (by kernel_rfl) ⟨c7, trivial⟩ ?_
      refine E_has (l := [(0, (eL e_api_Jump f0)), (3, (eInt .i64 (0 : Int))), (4, (eInt .i64 (0 : Int))), (19, (eBool (decide (((List.getD f0 (Int.toNat (0 : Int)) default).At) = (-1 : Int)))))]) (.eq (by kernel_rfl)) ?_
      refine E_done (thenA_normal (?_))
      refine C_cond (b := decide (((List.getD f0 (Int.toNat (0 : Int)) default).At) = (-1 : Int))) (by kernel_rfl) (by kernel_rfl) (fun hc9 => ?_) (fun hc9 => ?_)
      · replace h0 := condT hc9 h0
        refine A_cl (C_region ttOk (n := 5) (by kernel_rfl) (by kernel_rfl) ?_)
        obtain ⟨c8, h0⟩ := asrtE h0
        refine R_all (Ds := [0 ≤ (0 : Int) ∧ (0 : Int) < ((List.length f0 : Nat) : Int)]) (by kernel_rfl) ⟨c8, trivial⟩ ?_
        refine E_has (l := [(0, (eL e_api_Jump f0)), (3, (eInt .i64 (0 : Int))), (4, (eInt .i64 ((List.getD f0 (Int.toNat (0 : Int)) default).Net)))]) (.eq (by kernel_rfl)) ?_
        exact E_done (thenA_normal (⟨rfl, (0 : Int), (List.getD f0 (Int.toNat (0 : Int)) default).Net, .eq (by kernel_rfl), hO, h0⟩))
      · replace h0 := condF hc9 h0
        refine A_cl (C_skip (by kernel_rfl) ?_)
        refine E_has (l := [(0, (eL e_api_Jump f0)), (3, (eInt .i64 (0 : Int))), (4, (eInt .i64 (0 : Int)))]) (.eq (by kernel_rfl)) ?_
        exact E_done (thenA_normal (⟨rfl, (0 : Int), (0 : Int), .eq (by kernel_rfl), hO, h0⟩))

end Go.Abs
