/- The walks of the given functions: printed by gen.py. -/
import Derived.Test.YtgeajlnkbfeidaaWalks2
namespace Go.Abs
open Go Go.RowKit Go.Proofs

theorem w_ref09_Least (f0 : (List api_Jump)) (r : Int) (h0 : s_ref09_Least f0 = some r) : Fine Try.prog 26 [(eL e_api_Jump f0)] (eInt .i64 r) := by
  intro H0
  refine F_walk Try.func26 (by kernel_rfl) (by kernel_rfl) (by kernel_rfl) ?_
  have hO := Owns.start H0
  unfold s_ref09_Least at h0
  refine C_seq (by kernel_rfl) ?_
  refine A_cl (C_region ttOk (n := 1) (by kernel_rfl) (by kernel_rfl) ?_)
  refine R_all (Ds := []) (by kernel_rfl) trivial ?_
  refine E_has (l := [(0, (eL e_api_Jump f0))]) (.eq (by kernel_rfl)) ?_
  refine E_done (thenA_normal (?_))
  refine C_seq (by kernel_rfl) ?_
  refine C_seq (by kernel_rfl) ?_
  refine A_cl (C_region ttOk (n := 3) (by kernel_rfl) (by kernel_rfl) ?_)
  refine R_pure 1 (by kernel_rfl) (Ds := []) (by kernel_rfl) trivial ?_
  obtain ⟨x1, hx2, h0⟩ := bindE h0
  refine R_callO [] 16 [(eL e_api_Jump f0)] (eBool x1) true (by kernel_rfl) (by kernel_rfl) (by kernel_rfl) (fun hb3 => (w_ref09_May f0 _ hx2)) hO ?_
  intro H hO
  refine R_all (Ds := []) (by kernel_rfl) trivial ?_
  refine E_has (l := [(0, (eL e_api_Jump f0)), (7, (eBool (!x1)))]) (.eq (by kernel_rfl)) ?_
  refine E_done (thenA_normal (?_))
  refine C_cond (b := !x1) (by kernel_rfl) (by kernel_rfl) (fun hc17 => ?_) (fun hc17 => ?_)
  · replace h0 := condT hc17 h0
    refine C_seq (by kernel_rfl) ?_
    refine A_cl (C_region ttOk (n := 1) (by kernel_rfl) (by kernel_rfl) ?_)
    refine R_all (Ds := []) (by kernel_rfl) trivial ?_
    refine E_has (l := [(2, (eInt .i64 (0 : Int)))]) (.eq (by kernel_rfl)) ?_
    refine E_done (thenA_normal (?_))
    refine A_cl (C_ret (by kernel_rfl) ?_)
    refine E_has (l := [(2, (eInt .i64 (0 : Int)))]) (.eq (by kernel_rfl)) ?_
    obtain rfl := Option.some.inj h0
    exact E_done (thenA_ret (Q_ret (x := (eInt .i64 (0 : Int))) (by kernel_rfl) (SubV.refl _) ⟨rfl, hO.out⟩))
  · replace h0 := condF hc17 h0
    refine A_cl (C_skip (by kernel_rfl) ?_)
    refine E_has (l := [(0, (eL e_api_Jump f0))]) (.eq (by kernel_rfl)) ?_
    refine E_done (thenA_normal (?_))
    refine C_seq (by kernel_rfl) ?_
    refine A_cl (C_region ttOk (n := 3) (by kernel_rfl) (by kernel_rfl) ?_)
    refine R_pure 1 (by kernel_rfl) (Ds := []) (by kernel_rfl) trivial ?_
    obtain ⟨x4, hx5, h0⟩ := bindE h0
    refine R_callO [] 41 [(eL e_api_Jump f0), (eInt .i64 (-1 : Int))] (eInt .i64 x4) true (by kernel_rfl) (by kernel_rfl) (by kernel_rfl) (fun hb6 => (w_ref09_Value f0 (-1 : Int) _ hx5)) hO ?_
    intro H hO
    refine R_all (Ds := []) (by kernel_rfl) trivial ?_
    refine E_has (l := [(0, (eL e_api_Jump f0)), (3, (eInt .i64 x4))]) (.eq (by kernel_rfl)) ?_
    refine E_done (thenA_normal (?_))
    refine C_seqJ (by kernel_rfl) (fun T H => ∃ m3 : Int, Has T [(3, (eInt .i64 m3))] ∧ Owns ⟨H0, []⟩ H [] ∧ ref09_Least_j1 m3 = some r) ?_ ?_
    · clear hO h0
      rintro T H ⟨m3, hT, hO, h0⟩
      refine C_has hT ?_
      clear hT
      unfold ref09_Least_j1 at h0
      refine C_seq (by kernel_rfl) ?_
      refine A_cl (C_region ttOk (n := 2) (by kernel_rfl) (by kernel_rfl) ?_)
      refine R_all (Ds := []) (by kernel_rfl) trivial ?_
      refine E_has (l := [(2, (eInt .i64 m3))]) (.eq (by kernel_rfl)) ?_
      refine E_done (thenA_normal (?_))
      refine A_cl (C_ret (by kernel_rfl) ?_)
      refine E_has (l := [(2, (eInt .i64 m3))]) (.eq (by kernel_rfl)) ?_
      obtain rfl := Option.some.inj h0
      exact E_done (Q_ret (x := (eInt .i64 m3)) (by kernel_rfl) (SubV.refl _) ⟨rfl, hO.out⟩)
    · refine C_seq (by kernel_rfl) ?_
      refine A_cl (C_region ttOk (n := 1) (by kernel_rfl) (by kernel_rfl) ?_)
      refine R_all (Ds := []) (by kernel_rfl) trivial ?_
      refine E_has (l := [(0, (eL e_api_Jump f0)), (3, (eInt .i64 x4)), (4, (eInt .i64 (0 : Int)))]) (.eq (by kernel_rfl)) ?_
      refine E_done (thenA_normal (?_))
      refine C_block (id := 0) (by kernel_rfl) (by kernel_rfl) ?_
      refine C_has (l := [(0, (eL e_api_Jump f0)), (3, (eInt .i64 x4)), (4, (eInt .i64 (0 : Int)))]) (.eq (by kernel_rfl)) ?_
      refine C_cut (fun T H => ∃ m3 : Int, ∃ i4 : Int, Has T [(0, (eL e_api_Jump f0)), (3, (eInt .i64 m3)), (4, (eInt .i64 i4))] ∧ Owns ⟨H0, []⟩ H [] ∧ ref09_Least_h2 f0 m3 i4 = some r) ?_ ⟨x4, (0 : Int), .eq (by kernel_rfl), hO, h0⟩
      clear hO h0
      rintro T H ⟨m3, i4, hT, hO, h0⟩
      refine C_has hT ?_
      clear hT
      unfold ref09_Least_h2 at h0
      obtain ⟨rr0, hl0, h0⟩ := bindE h0
      refine C_loopS (by kernel_rfl) (fun (s : Int × Int) T H => Has T [(0, (eL e_api_Jump f0)), (3, (eInt .i64 s.1)), (4, (eInt .i64 s.2))] ∧ Owns ⟨H0, []⟩ H []) hl0 ⟨.eq (by kernel_rfl), hO⟩ ?_
      clear hO
      rintro k0 s out1 T H ⟨hT, hO⟩ h1 ho0
      obtain ⟨m3, i4⟩ := s
      replace h1 : ref09_Least_l2 f0 m3 i4 = some out1 := h1
      refine C_has (l := [(0, (eL e_api_Jump f0)), (3, (eInt .i64 m3)), (4, (eInt .i64 i4))]) hT ?_
      clear hT
      unfold ref09_Least_l2 at h1
      refine C_seq (by kernel_rfl) ?_
      refine C_seq (by kernel_rfl) ?_
      refine A_cl (C_region ttOk (n := 4) (by kernel_rfl) (by kernel_rfl) ?_)
      refine R_all (Ds := []) (by kernel_rfl) trivial ?_
      refine E_has (l := [(0, (eL e_api_Jump f0)), (3, (eInt .i64 m3)), (4, (eInt .i64 i4)), (13, (eBool (decide (i4 < ((List.length f0 : Nat) : Int)))))]) (.eq (by kernel_rfl)) ?_
      refine E_done (thenA_normal (?_))
      refine C_cond (b := decide (i4 < ((List.length f0 : Nat) : Int))) (by kernel_rfl) (by kernel_rfl) (fun hc16 => ?_) (fun hc16 => ?_)
      · replace h1 := condT hc16 h1
        refine A_cl (C_skip (by kernel_rfl) ?_)
        refine E_has (l := [(0, (eL e_api_Jump f0)), (3, (eInt .i64 m3)), (4, (eInt .i64 i4))]) (.eq (by kernel_rfl)) ?_
        refine E_done (thenA_normal (?_))
        refine C_seqJ (by kernel_rfl) (fun T H => ∃ m3 : Int, Has T [(0, (eL e_api_Jump f0)), (3, (eInt .i64 m3)), (4, (eInt .i64 i4))] ∧ Owns ⟨H0, []⟩ H [] ∧ ref09_Least_j3 f0 m3 i4 = some out1) ?_ ?_
        · clear hO h1
          rintro T H ⟨m3, hT, hO, h1⟩
          refine C_has hT ?_
          clear hT
          unfold ref09_Least_j3 at h1
          refine A_cl (C_region ttOk (n := 3) (by kernel_rfl) (by kernel_rfl) ?_)
          refine R_all (Ds := []) (by kernel_rfl) trivial ?_
          refine E_has (l := [(0, (eL e_api_Jump f0)), (3, (eInt .i64 m3)), (4, (eInt .i64 (IntKind.i64.wrap (i4 + (1 : Int)))))]) (.eq (by kernel_rfl)) ?_
          exact E_done (thenA_normal (⟨rfl, (m3, IntKind.i64.wrap (i4 + (1 : Int))), (Option.some.inj h1).symm, .eq (by kernel_rfl), hO⟩))
        · refine C_block (id := 1) (by kernel_rfl) (by kernel_rfl) ?_
          refine C_seq (by kernel_rfl) ?_
          refine A_cl (C_region ttOk (n := 9) (by kernel_rfl) (by kernel_rfl) ?_)
          obtain ⟨c7, h1⟩ := asrtE h1
          refine R_pure 6 (by kernel_rfl) (Ds := [0 ≤ i4 ∧ i4 < ((List.length f0 : Nat) : Int)]) (by kernel_rfl) ⟨c7, trivial⟩ ?_
          obtain ⟨x8, hx9, h1⟩ := bindE h1
          refine R_callO [] 41 [(eL e_api_Jump f0), (eInt .i64 ((List.getD f0 (Int.toNat i4) default).At))] (eInt .i64 x8) true (by kernel_rfl) (by kernel_rfl) (by kernel_rfl) (fun hb10 => (w_ref09_Value f0 ((List.getD f0 (Int.toNat i4) default).At) _ hx9)) hO ?_
          intro H hO
          refine R_all (Ds := []) (by kernel_rfl) trivial ?_
          refine E_has (l := [(0, (eL e_api_Jump f0)), (3, (eInt .i64 m3)), (4, (eInt .i64 i4)), (24, (eBool (decide (x8 < m3))))]) (.eq (by kernel_rfl)) ?_
          refine E_done (thenA_normal (?_))
          refine C_cond (b := decide (x8 < m3)) (by kernel_rfl) (by kernel_rfl) (fun hc15 => ?_) (fun hc15 => ?_)
          · replace h1 := condT hc15 h1
            refine A_cl (C_region ttOk (n := 8) (by kernel_rfl) (by kernel_rfl) ?_)
            obtain ⟨c11, h1⟩ := asrtE h1
            refine R_pure 6 (by kernel_rfl) (Ds := [0 ≤ i4 ∧ i4 < ((List.length f0 : Nat) : Int)]) (by kernel_rfl) ⟨c11, trivial⟩ ?_
            obtain ⟨x12, hx13, h1⟩ := bindE h1
            refine R_callO [] 41 [(eL e_api_Jump f0), (eInt .i64 ((List.getD f0 (Int.toNat i4) default).At))] (eInt .i64 x12) true (by kernel_rfl) (by kernel_rfl) (by kernel_rfl) (fun hb14 => (w_ref09_Value f0 ((List.getD f0 (Int.toNat i4) default).At) _ hx13)) hO ?_
            intro H hO
            refine R_all (Ds := []) (by kernel_rfl) trivial ?_
            refine E_has (l := [(0, (eL e_api_Jump f0)), (3, (eInt .i64 x12)), (4, (eInt .i64 i4))]) (.eq (by kernel_rfl)) ?_
            exact E_done (blockA_normal (thenA_normal (⟨rfl, x12, .eq (by kernel_rfl), hO, h1⟩)))
          · replace h1 := condF hc15 h1
            refine A_cl (C_skip (by kernel_rfl) ?_)
            refine E_has (l := [(0, (eL e_api_Jump f0)), (3, (eInt .i64 m3)), (4, (eInt .i64 i4))]) (.eq (by kernel_rfl)) ?_
            exact E_done (blockA_normal (thenA_normal (⟨rfl, m3, .eq (by kernel_rfl), hO, h1⟩)))
      · replace h1 := condF hc16 h1
        refine A_cl (C_exit (id := 0) (by kernel_rfl) (by kernel_rfl) ?_)
        refine E_has (l := [(3, (eInt .i64 m3))]) (.eq (by kernel_rfl)) ?_
        obtain rfl := Option.some.inj h1
        obtain rfl : _ = rr0 := ho0
        replace h0 : ref09_Least_j1 m3 = some r := h0
        exact E_done (thenA_exit (thenA_exit (blockA_hit (thenA_normal (⟨rfl, m3, .eq (by kernel_rfl), hO, h0⟩)))))

theorem w_law09_StepValues (f0 : (List api_Jump)) (t1 : Int) (r : Bool) (h0 : s_law09_StepValues f0 t1 = some r) : Fine Try.prog 7 [(eL e_api_Jump f0), (eInt .i64 t1)] (eBool r) := by
  intro H0
  refine F_walk Try.func7 (by kernel_rfl) (by kernel_rfl) (by kernel_rfl) ?_
  have hO := Owns.start H0
  unfold s_law09_StepValues at h0
  refine C_seq (by kernel_rfl) ?_
  refine A_cl (C_region ttOk (n := 1) (by kernel_rfl) (by kernel_rfl) ?_)
  refine R_all (Ds := []) (by kernel_rfl) trivial ?_
  refine E_has (l := [(0, (eL e_api_Jump f0)), (1, (eInt .i64 t1))]) (.eq (by kernel_rfl)) ?_
  refine E_done (thenA_normal (?_))
  refine C_seq (by kernel_rfl) ?_
  refine A_cl (C_region ttOk (n := 23) (by kernel_rfl) (by kernel_rfl) ?_)
  obtain ⟨x1, hx2, h0⟩ := bindE h0
  refine R_callO [] 11 [] (eBool x1) true (by kernel_rfl) (by kernel_rfl) (by kernel_rfl) (fun hb3 => (w_law09_live  _ hx2)) hO ?_
  intro H hO
  refine R_pure 4 (by kernel_rfl) (Ds := []) (by kernel_rfl) trivial ?_
  obtain ⟨x4, hx5, h0⟩ := bindE h0
  refine R_callO [(6, true)] 19 [(eL e_api_Jump f0), (eInt .i64 t1)] (eInt .i64 x4) x1 (by kernel_rfl) (by kernel_rfl) (by kernel_rfl) (fun hb6 => (w_step_At f0 t1 _ (gcallE hx5 hb6))) hO ?_
  intro H hO
  refine R_pure 7 (by kernel_rfl) (Ds := []) (by kernel_rfl) trivial ?_
  obtain ⟨x7, hx8, h0⟩ := bindE h0
  refine R_callO [(6, true)] 24 [(eL e_api_Jump f0), (eInt .i64 t1)] (eInt .i64 x7) x1 (by kernel_rfl) (by kernel_rfl) (by kernel_rfl) (fun hb9 => (w_ref09_At f0 t1 _ (gcallE hx8 hb9))) hO ?_
  intro H hO
  refine R_pure 12 (by kernel_rfl) (Ds := []) (by kernel_rfl) trivial ?_
  obtain ⟨x10, hx11, h0⟩ := bindE h0
  refine R_callO [(15, true)] 10 [(eL e_api_Jump f0)] (eBool x10) (x1 && (decide (x4 = x7))) (by kernel_rfl) (by kernel_rfl) (by kernel_rfl) (fun hb12 => (w_law09_few f0 _ (gcallE hx11 hb12))) hO ?_
  intro H hO
  refine R_pure 16 (by kernel_rfl) (Ds := []) (by kernel_rfl) trivial ?_
  obtain ⟨x13, hx14, h0⟩ := bindE h0
  refine R_callO [(19, false), (15, true)] 25 [(eL e_api_Jump f0)] (eInt .i64 x13) ((!(!x10)) && (x1 && (decide (x4 = x7)))) (by kernel_rfl) (by kernel_rfl) (by kernel_rfl) (fun hb15 => (w_step_Least f0 _ (gcallE hx14 hb15))) hO ?_
  intro H hO
  refine R_pure 18 (by kernel_rfl) (Ds := []) (by kernel_rfl) trivial ?_
  obtain ⟨x16, hx17, h0⟩ := bindE h0
  refine R_callO [(19, false), (15, true)] 26 [(eL e_api_Jump f0)] (eInt .i64 x16) ((!(!x10)) && (x1 && (decide (x4 = x7)))) (by kernel_rfl) (by kernel_rfl) (by kernel_rfl) (fun hb18 => (w_ref09_Least f0 _ (gcallE hx17 hb18))) hO ?_
  intro H hO
  refine R_all (Ds := []) (by kernel_rfl) trivial ?_
  refine E_has (l := [(4, (eBool ((x1 && (decide (x4 = x7))) && ((!x10) || (decide (x13 = x16))))))]) (.eq (by kernel_rfl)) ?_
  refine E_done (thenA_normal (?_))
  refine A_cl (C_ret (by kernel_rfl) ?_)
  refine E_has (l := [(4, (eBool ((x1 && (decide (x4 = x7))) && ((!x10) || (decide (x13 = x16))))))]) (.eq (by kernel_rfl)) ?_
  obtain rfl := Option.some.inj h0
  exact E_done (Q_ret (x := (eBool ((x1 && (decide (x4 = x7))) && ((!x10) || (decide (x13 = x16)))))) (by kernel_rfl) (SubV.refl _) ⟨rfl, hO.out⟩)

theorem w_step_Ahead (f0 : (List api_Jump)) (t1 : Int) (r : ((List api_Jump) × Int)) (h0 : s_step_Ahead f0 t1 = some r) : Fine Try.prog 27 [(eL e_api_Jump f0), (eInt .i64 t1)] (.tup [(eL e_api_Jump r.1), (eInt .i64 r.2)]) := by
  intro H0
  refine F_walk Try.func27 (by kernel_rfl) (by kernel_rfl) (by kernel_rfl) ?_
  have hO := Owns.start H0
  unfold s_step_Ahead at h0
  refine C_seq (by kernel_rfl) ?_
  refine A_cl (C_region ttOk (n := 2) (by kernel_rfl) (by kernel_rfl) ?_)
  refine R_all (Ds := []) (by kernel_rfl) trivial ?_
  refine E_has (l := [(0, (eL e_api_Jump f0)), (1, (eInt .i64 t1))]) (.eq (by kernel_rfl)) ?_
  refine E_done (thenA_normal (?_))
  refine C_seq (by kernel_rfl) ?_
  refine C_seq (by kernel_rfl) ?_
  refine A_cl (C_region ttOk (n := 3) (by kernel_rfl) (by kernel_rfl) ?_)
  refine R_pure 1 (by kernel_rfl) (Ds := []) (by kernel_rfl) trivial ?_
  obtain ⟨x1, hx2, h0⟩ := bindE h0
  refine R_callO [] 15 [(eL e_api_Jump f0)] (eBool x1) true (by kernel_rfl) (by kernel_rfl) (by kernel_rfl) (fun hb3 => (w_step_May f0 _ hx2)) hO ?_
  intro H hO
  refine R_all (Ds := []) (by kernel_rfl) trivial ?_
  refine E_has (l := [(0, (eL e_api_Jump f0)), (1, (eInt .i64 t1)), (12, (eBool (!x1)))]) (.eq (by kernel_rfl)) ?_
  refine E_done (thenA_normal (?_))
  refine C_cond (b := !x1) (by kernel_rfl) (by kernel_rfl) (fun hc27 => ?_) (fun hc27 => ?_)
  · replace h0 := condT hc27 h0
    refine C_seq (by kernel_rfl) ?_
    refine A_cl (C_region ttOk (n := 2) (by kernel_rfl) (by kernel_rfl) ?_)
    refine R_all (Ds := []) (by kernel_rfl) trivial ?_
    refine E_has (l := [(4, (.sl true 0 (fun _ => .bad))), (5, (eInt .i64 (2 : Int)))]) (.eq (by kernel_rfl)) ?_
    refine E_done (thenA_normal (?_))
    refine A_cl (C_ret (by kernel_rfl) ?_)
    refine E_has (l := [(4, (eL e_api_Jump ([]))), (5, (eInt .i64 (2 : Int)))]) ⟨[(4, (.sl true 0 (fun _ => .bad))), (5, (eInt .i64 (2 : Int)))], by kernel_rfl, rfl, ⟨subNilL, SubV.refl _, trivial⟩⟩ ?_
    obtain rfl := Option.some.inj h0
    exact E_done (thenA_ret (Q_ret (x := (.tup [(eL e_api_Jump ([])), (eInt .i64 (2 : Int))])) (by kernel_rfl) (SubV.refl _) ⟨rfl, hO.out⟩))
  · replace h0 := condF hc27 h0
    refine A_cl (C_skip (by kernel_rfl) ?_)
    refine E_has (l := [(0, (eL e_api_Jump f0)), (1, (eInt .i64 t1))]) (.eq (by kernel_rfl)) ?_
    refine E_done (thenA_normal (?_))
    refine C_seq (by kernel_rfl) ?_
    refine C_seq (by kernel_rfl) ?_
    refine A_cl (C_region ttOk (n := 2) (by kernel_rfl) (by kernel_rfl) ?_)
    refine R_all (Ds := []) (by kernel_rfl) trivial ?_
    refine E_has (l := [(0, (eL e_api_Jump f0)), (1, (eInt .i64 t1)), (14, (eBool (decide ((1125899906842624 : Int) ≤ t1))))]) (.eq (by kernel_rfl)) ?_
    refine E_done (thenA_normal (?_))
    refine C_cond (b := decide ((1125899906842624 : Int) ≤ t1)) (by kernel_rfl) (by kernel_rfl) (fun hc26 => ?_) (fun hc26 => ?_)
    · replace h0 := condT hc26 h0
      refine C_seq (by kernel_rfl) ?_
      refine A_cl (C_region ttOk (n := 4) (by kernel_rfl) (by kernel_rfl) ?_)
      refine R_pure 1 (by kernel_rfl) (Ds := []) (by kernel_rfl) trivial ?_
      obtain ⟨x4, hx5, h0⟩ := bindE h0
      refine R_callP (L' := fun lo6 => [(lo6, 2, List.map e_api_Jump x4)]) 2 (List.map e_api_Jump x4) 35 [(eL e_api_Jump f0)] (fun lo6 => (.msl 2 lo6 0 (List.length x4))) (by kernel_rfl) (by kernel_rfl) (w_slices_Clone_api_Jump_api_Jump f0 _ hx5) hO (fun _ => by kernel_rfl) ?_
      intro lo6 H hO
      refine R_all (Ds := []) (by kernel_rfl) trivial ?_
      refine E_has (l := [(4, (.msl 2 lo6 0 (List.length x4))), (5, (eInt .i64 (0 : Int)))]) (.eq (by kernel_rfl)) ?_
      refine E_done (thenA_normal (?_))
      refine A_cl (C_ret (by kernel_rfl) ?_)
      refine E_has (l := [(4, (.msl 2 lo6 0 (List.length x4))), (5, (eInt .i64 (0 : Int)))]) (.eq (by kernel_rfl)) ?_
      refine E_freezeO (en := e_api_Jump) x4 0 0 4 2 lo6 (List.length x4) hO (by kernel_rfl) (by kernel_rfl) (by kernel_rfl) (L' := []) (by kernel_rfl) ?_
      intro H7 hO
      obtain rfl := Option.some.inj h0
      exact E_done (thenA_ret (Q_ret (x := (.tup [(eL e_api_Jump x4), (eInt .i64 (0 : Int))])) (by kernel_rfl) (SubV.refl _) ⟨rfl, hO.out⟩))
    · replace h0 := condF hc26 h0
      refine A_cl (C_skip (by kernel_rfl) ?_)
      refine E_has (l := [(0, (eL e_api_Jump f0)), (1, (eInt .i64 t1))]) (.eq (by kernel_rfl)) ?_
      refine E_done (thenA_normal (?_))
      refine C_seq (by kernel_rfl) ?_
      refine A_cl (C_region ttOk (n := 3) (by kernel_rfl) (by kernel_rfl) ?_)
      refine R_bsl (xs := []) (k := 2) (by kernel_rfl) (by kernel_rfl) ?_
      refine R_all (Ds := []) (by kernel_rfl) trivial ?_
      refine E_has (l := [(0, (eL e_api_Jump f0)), (1, (eInt .i64 t1)), (6, (.sl true 0 (fun _ => .bad))), (7, (eInt .i64 (0 : Int)))]) (.eq (by kernel_rfl)) ?_
      refine E_done (thenA_normal (?_))
      refine C_seqJ (by kernel_rfl) (fun T H => ∃ out6 : List api_Jump, ∃ v7 : Int, ∃ lo8 : Nat, Has T [(1, (eInt .i64 t1)), (6, (.msl 2 lo8 0 (List.length out6))), (7, (eInt .i64 v7))] ∧ Owns ⟨H0, []⟩ H [(lo8, 2, List.map e_api_Jump out6)] ∧ step_Ahead_j1 t1 out6 v7 = some r) ?_ ?_
      · clear hO h0
        rintro T H ⟨out6, v7, lo8, hT, hO, h0⟩
        refine C_has hT ?_
        clear hT
        unfold step_Ahead_j1 at h0
        refine C_seqJ (by kernel_rfl) (fun T H => ∃ out6 : List api_Jump, ∃ lo9 : Nat, Has T [(6, (.msl 2 lo9 0 (List.length out6)))] ∧ Owns ⟨H0, []⟩ H [(lo9, 2, List.map e_api_Jump out6)] ∧ step_Ahead_j2 out6 = some r) ?_ ?_
        · clear hO h0
          rintro T H ⟨out6, lo9, hT, hO, h0⟩
          refine C_has hT ?_
          clear hT
          unfold step_Ahead_j2 at h0
          refine C_seq (by kernel_rfl) ?_
          refine A_cl (C_region ttOk (n := 6) (by kernel_rfl) (by kernel_rfl) ?_)
          refine R_freezeO (e := e_api_Jump) out6 0 6 2 lo9 (List.length out6) [] (by kernel_rfl) hO (by kernel_rfl) (by kernel_rfl) (by kernel_rfl) (by kernel_rfl) ?_
          intro H hO
          refine R_pure 1 (by kernel_rfl) (Ds := []) (by kernel_rfl) trivial ?_
          obtain ⟨x10, hx11, h0⟩ := bindE h0
          refine R_callO [] 39 [(eL e_api_Jump out6)] (.tup [(eL e_api_Jump x10.1), (eInt .i64 x10.2)]) true (by kernel_rfl) (by kernel_rfl) (by kernel_rfl) (fun hb12 => (w_step_told out6 _ hx11)) hO ?_
          intro H hO
          refine R_all (Ds := []) (by kernel_rfl) trivial ?_
          refine E_has (l := [(4, (eL e_api_Jump x10.1)), (5, (eInt .i64 x10.2))]) (.eq (by kernel_rfl)) ?_
          refine E_done (thenA_normal (?_))
          refine A_cl (C_ret (by kernel_rfl) ?_)
          refine E_has (l := [(4, (eL e_api_Jump x10.1)), (5, (eInt .i64 x10.2))]) (.eq (by kernel_rfl)) ?_
          obtain rfl := Option.some.inj h0
          exact E_done (Q_ret (x := (.tup [(eL e_api_Jump x10.1), (eInt .i64 x10.2)])) (by kernel_rfl) (SubV.refl _) ⟨rfl, hO.out⟩)
        · refine C_seq (by kernel_rfl) ?_
          refine A_cl (C_region ttOk (n := 2) (by kernel_rfl) (by kernel_rfl) ?_)
          refine R_all (Ds := []) (by kernel_rfl) trivial ?_
          refine E_has (l := [(1, (eInt .i64 t1)), (6, (.msl 2 lo8 0 (List.length out6))), (7, (eInt .i64 v7)), (38, (eBool (!decide (v7 = (0 : Int)))))]) (.eq (by kernel_rfl)) ?_
          refine E_done (thenA_normal (?_))
          refine C_cond (b := !decide (v7 = (0 : Int))) (by kernel_rfl) (by kernel_rfl) (fun hc15 => ?_) (fun hc15 => ?_)
          · replace h0 := condT hc15 h0
            refine A_cl (C_region ttOk (n := 8) (by kernel_rfl) (by kernel_rfl) ?_)
            refine R_pure 5 (by kernel_rfl) (Ds := []) (by kernel_rfl) trivial ?_
            refine R_bsl (xs := [(e_api_Jump (api_Jump.mk t1 (IntKind.i64.wrap (0 - v7))))]) (k := 2) (by kernel_rfl) (by kernel_rfl) ?_
            obtain ⟨c14, h0⟩ := asrtE h0
            refine R_appOL (e := e_api_Jump) out6 ([api_Jump.mk t1 (IntKind.i64.wrap (0 - v7))]) 0 lo8 2 16 (frozenOf [(e_api_Jump (api_Jump.mk t1 (IntKind.i64.wrap (0 - v7))))]) (fun lo13 => [(lo13, 2, List.map e_api_Jump (out6 ++ ([api_Jump.mk t1 (IntKind.i64.wrap (0 - v7))])))]) (by kernel_rfl) (by kernel_rfl) hO (by kernel_rfl) (by kernel_rfl) c14 (fun _ => by kernel_rfl) ?_
            intro lo13 H hO
            refine R_all (Ds := []) (by kernel_rfl) trivial ?_
            refine E_has (l := [(6, (.msl 2 lo13 0 (List.length (out6 ++ ([api_Jump.mk t1 (IntKind.i64.wrap (0 - v7))])))))]) (.eq (by kernel_rfl)) ?_
            exact E_done (thenA_normal (⟨rfl, out6 ++ ([api_Jump.mk t1 (IntKind.i64.wrap (0 - v7))]), lo13, .eq (by kernel_rfl), hO, h0⟩))
          · replace h0 := condF hc15 h0
            refine A_cl (C_skip (by kernel_rfl) ?_)
            refine E_has (l := [(6, (.msl 2 lo8 0 (List.length out6)))]) (.eq (by kernel_rfl)) ?_
            exact E_done (thenA_normal (⟨rfl, out6, lo8, .eq (by kernel_rfl), hO, h0⟩))
      · refine C_seq (by kernel_rfl) ?_
        refine A_cl (C_region ttOk (n := 3) (by kernel_rfl) (by kernel_rfl) ?_)
        refine R_all (Ds := []) (by kernel_rfl) trivial ?_
        refine E_has (l := [(1, (eInt .i64 t1)), (6, (.sl true 0 (fun _ => .bad))), (7, (eInt .i64 (0 : Int))), (18, (eL e_api_Jump f0)), (19, (eInt .i64 ((List.length f0 : Nat) : Int))), (20, (eInt .i64 (0 : Int)))]) (.eq (by kernel_rfl)) ?_
        refine E_done (thenA_normal (?_))
        refine C_block (id := 0) (by kernel_rfl) (by kernel_rfl) ?_
        refine C_has (l := [(1, (eInt .i64 t1)), (6, (.sl true 0 (fun _ => .bad))), (7, (eInt .i64 (0 : Int))), (18, (eL e_api_Jump f0)), (19, (eInt .i64 ((List.length f0 : Nat) : Int))), (20, (eInt .i64 (0 : Int)))]) (.eq (by kernel_rfl)) ?_
        refine C_ownO (el := (fun _ => .bad)) 1 6 2 hO (by kernel_rfl) ?_
        intro lo24 H25 hO
        refine C_cut (fun T H => ∃ out6 : List api_Jump, ∃ v7 : Int, ∃ t18 : (List api_Jump), ∃ t19 : Int, ∃ t20 : Int, ∃ lo17 : Nat, Has T [(1, (eInt .i64 t1)), (6, (.msl 2 lo17 0 (List.length out6))), (7, (eInt .i64 v7)), (18, (eL e_api_Jump t18)), (19, (eInt .i64 t19)), (20, (eInt .i64 t20))] ∧ Owns ⟨H0, []⟩ H [(lo17, 2, List.map e_api_Jump out6)] ∧ step_Ahead_h3 t1 out6 v7 t18 t19 t20 = some r) ?_ ⟨([] : List api_Jump), (0 : Int), f0, ((List.length f0 : Nat) : Int), (0 : Int), lo24, .eq (by kernel_rfl), hO, h0⟩
        clear hO h0
        rintro T H ⟨out6, v7, t18, t19, t20, lo17, hT, hO, h0⟩
        refine C_has hT ?_
        clear hT
        unfold step_Ahead_h3 at h0
        obtain ⟨rr0, hl0, h0⟩ := bindE h0
        refine C_loopS (by kernel_rfl) (fun (s : List api_Jump × Int × Int) T H => ∃ lo17 : Nat, Has T [(1, (eInt .i64 t1)), (6, (.msl 2 lo17 0 (List.length s.1))), (7, (eInt .i64 s.2.1)), (18, (eL e_api_Jump t18)), (19, (eInt .i64 t19)), (20, (eInt .i64 s.2.2))] ∧ Owns ⟨H0, []⟩ H [(lo17, 2, List.map e_api_Jump s.1)]) hl0 ⟨lo17, .eq (by kernel_rfl), hO⟩ ?_
        clear hO
        rintro k0 s out1 T H ⟨lo17, hT, hO⟩ h1 ho0
        obtain ⟨out6, v7, t20⟩ := s
        replace h1 : step_Ahead_l3 t1 t18 t19 out6 v7 t20 = some out1 := h1
        refine C_has (l := [(1, (eInt .i64 t1)), (6, (.msl 2 lo17 0 (List.length out6))), (7, (eInt .i64 v7)), (18, (eL e_api_Jump t18)), (19, (eInt .i64 t19)), (20, (eInt .i64 t20))]) hT ?_
        clear hT
        unfold step_Ahead_l3 at h1
        refine C_seq (by kernel_rfl) ?_
        refine A_cl (C_region ttOk (n := 1) (by kernel_rfl) (by kernel_rfl) ?_)
        refine R_all (Ds := []) (by kernel_rfl) trivial ?_
        refine E_has (l := [(1, (eInt .i64 t1)), (6, (.msl 2 lo17 0 (List.length out6))), (7, (eInt .i64 v7)), (18, (eL e_api_Jump t18)), (19, (eInt .i64 t19)), (20, (eInt .i64 t20)), (21, (eBool (decide (t20 < t19))))]) (.eq (by kernel_rfl)) ?_
        refine E_done (thenA_normal (?_))
        refine C_seq (by kernel_rfl) ?_
        refine C_cond (b := decide (t20 < t19)) (by kernel_rfl) (by kernel_rfl) (fun hc23 => ?_) (fun hc23 => ?_)
        · replace h1 := condT hc23 h1
          refine A_cl (C_skip (by kernel_rfl) ?_)
          refine E_has (l := [(1, (eInt .i64 t1)), (6, (.msl 2 lo17 0 (List.length out6))), (7, (eInt .i64 v7)), (18, (eL e_api_Jump t18)), (19, (eInt .i64 t19)), (20, (eInt .i64 t20))]) (.eq (by kernel_rfl)) ?_
          refine E_done (thenA_normal (?_))
          refine C_seq (by kernel_rfl) ?_
          refine C_block (id := 1) (by kernel_rfl) (by kernel_rfl) ?_
          refine C_seq (by kernel_rfl) ?_
          refine A_cl (C_region ttOk (n := 4) (by kernel_rfl) (by kernel_rfl) ?_)
          obtain ⟨c18, h1⟩ := asrtE h1
          refine R_pure 2 (by kernel_rfl) (Ds := [0 ≤ t20 ∧ t20 < ((List.length t18 : Nat) : Int)]) (by kernel_rfl) ⟨c18, trivial⟩ ?_
          refine R_allocO 2 (e_api_Jump (api_Jump.mk 0 0)) (by kernel_rfl) (by kernel_rfl) hO ?_
          intro lo19 H hO
          refine R_storeOL 1 lo19 2 0 (e_api_Jump (api_Jump.mk 0 0)) (e_api_Jump (List.getD t18 (Int.toNat t20) default)) [(e_api_Jump (api_Jump.mk 0 0))] [(lo17, 2, List.map e_api_Jump out6), (lo19, 2, [(e_api_Jump (List.getD t18 (Int.toNat t20) default))])] (by kernel_rfl) (by kernel_rfl) (by kernel_rfl) hO (by kernel_rfl) rfl (by kernel_rfl) ?_
          intro H hO
          refine R_end (by kernel_rfl) ?_
          refine E_has (l := [(1, (eInt .i64 t1)), (6, (.msl 2 lo17 0 (List.length out6))), (7, (eInt .i64 v7)), (9, (.lp lo19 0 0)), (18, (eL e_api_Jump t18)), (19, (eInt .i64 t19)), (20, (eInt .i64 t20))]) (.eq (by kernel_rfl)) ?_
          refine E_done (thenA_normal (?_))
          refine C_seq (by kernel_rfl) ?_
          refine C_seq (by kernel_rfl) ?_
          refine A_cl (C_region ttOk (n := 4) (by kernel_rfl) (by kernel_rfl) ?_)
          refine R_pure 1 (by kernel_rfl) (Ds := []) (by kernel_rfl) trivial ?_
          refine R_loadO [] 1 lo19 2 0 (e_api_Jump (List.getD t18 (Int.toNat t20) default)) (eInt .i64 ((List.getD t18 (Int.toNat t20) default).At)) [(e_api_Jump (List.getD t18 (Int.toNat t20) default))] (by kernel_rfl) (by kernel_rfl) hO (by kernel_rfl) true (by kernel_rfl) (fun _ => rfl) ?_
          refine R_all (Ds := []) (by kernel_rfl) trivial ?_
          refine E_has (l := [(1, (eInt .i64 t1)), (6, (.msl 2 lo17 0 (List.length out6))), (7, (eInt .i64 v7)), (9, (.lp lo19 0 0)), (18, (eL e_api_Jump t18)), (19, (eInt .i64 t19)), (20, (eInt .i64 t20)), (27, (eBool (decide (t1 ≤ ((List.getD t18 (Int.toNat t20) default).At)))))]) (.eq (by kernel_rfl)) ?_
          refine E_done (thenA_normal (?_))
          refine C_cond (b := decide (t1 ≤ ((List.getD t18 (Int.toNat t20) default).At))) (by kernel_rfl) (by kernel_rfl) (fun hc22 => ?_) (fun hc22 => ?_)
          · replace h1 := condT hc22 h1
            refine A_cl (C_exit (id := 0) (by kernel_rfl) (by kernel_rfl) ?_)
            refine E_has (l := [(1, (eInt .i64 t1)), (6, (.msl 2 lo17 0 (List.length out6))), (7, (eInt .i64 v7))]) (.eq (by kernel_rfl)) ?_
            replace hO := hO.pick (L' := [(lo17, 2, List.map e_api_Jump out6)]) [0] (by decide) (by kernel_rfl)
            obtain rfl := Option.some.inj h1
            obtain rfl : _ = rr0 := ho0
            replace h0 : step_Ahead_j1 t1 out6 v7 = some r := h0
            exact E_done (thenA_exit (blockA_miss (by kernel_rfl) (thenA_exit (thenA_exit (blockA_hit (thenA_normal (⟨rfl, out6, v7, lo17, .eq (by kernel_rfl), hO, h0⟩)))))))
          · replace h1 := condF hc22 h1
            refine A_cl (C_skip (by kernel_rfl) ?_)
            refine E_has (l := [(1, (eInt .i64 t1)), (6, (.msl 2 lo17 0 (List.length out6))), (7, (eInt .i64 v7)), (9, (.lp lo19 0 0)), (18, (eL e_api_Jump t18)), (19, (eInt .i64 t19)), (20, (eInt .i64 t20))]) (.eq (by kernel_rfl)) ?_
            refine E_done (thenA_normal (?_))
            refine C_seq (by kernel_rfl) ?_
            refine A_cl (C_region ttOk (n := 5) (by kernel_rfl) (by kernel_rfl) ?_)
            refine R_pure 1 (by kernel_rfl) (Ds := []) (by kernel_rfl) trivial ?_
            refine R_loadO [] 1 lo19 2 0 (e_api_Jump (List.getD t18 (Int.toNat t20) default)) (e_api_Jump (List.getD t18 (Int.toNat t20) default)) [(e_api_Jump (List.getD t18 (Int.toNat t20) default))] (by kernel_rfl) (by kernel_rfl) hO (by kernel_rfl) true (by kernel_rfl) (fun _ => rfl) ?_
            refine R_bsl (xs := [(e_api_Jump (List.getD t18 (Int.toNat t20) default))]) (k := 2) (by kernel_rfl) (by kernel_rfl) ?_
            obtain ⟨c21, h1⟩ := asrtE h1
            refine R_appOL (e := e_api_Jump) out6 ([List.getD t18 (Int.toNat t20) default]) 0 lo17 2 16 (frozenOf [(e_api_Jump (List.getD t18 (Int.toNat t20) default))]) (fun lo20 => [(lo20, 2, List.map e_api_Jump (out6 ++ ([List.getD t18 (Int.toNat t20) default]))), (lo19, 2, [(e_api_Jump (List.getD t18 (Int.toNat t20) default))])]) (by kernel_rfl) (by kernel_rfl) hO (by kernel_rfl) (by kernel_rfl) c21 (fun _ => by kernel_rfl) ?_
            intro lo20 H hO
            refine R_all (Ds := []) (by kernel_rfl) trivial ?_
            refine E_has (l := [(1, (eInt .i64 t1)), (6, (.msl 2 lo20 0 (List.length (out6 ++ ([List.getD t18 (Int.toNat t20) default]))))), (7, (eInt .i64 v7)), (9, (.lp lo19 0 0)), (18, (eL e_api_Jump t18)), (19, (eInt .i64 t19)), (20, (eInt .i64 t20))]) (.eq (by kernel_rfl)) ?_
            refine E_done (thenA_normal (?_))
            refine A_cl (C_region ttOk (n := 5) (by kernel_rfl) (by kernel_rfl) ?_)
            refine R_pure 2 (by kernel_rfl) (Ds := []) (by kernel_rfl) trivial ?_
            refine R_loadO [] 1 lo19 2 0 (e_api_Jump (List.getD t18 (Int.toNat t20) default)) (eInt .i64 ((List.getD t18 (Int.toNat t20) default).Net)) [(e_api_Jump (List.getD t18 (Int.toNat t20) default))] (by kernel_rfl) (by kernel_rfl) hO (by kernel_rfl) true (by kernel_rfl) (fun _ => rfl) ?_
            refine R_all (Ds := []) (by kernel_rfl) trivial ?_
            refine E_has (l := [(1, (eInt .i64 t1)), (6, (.msl 2 lo20 0 (List.length (out6 ++ ([List.getD t18 (Int.toNat t20) default]))))), (7, (eInt .i64 (IntKind.i64.wrap (v7 + ((List.getD t18 (Int.toNat t20) default).Net))))), (18, (eL e_api_Jump t18)), (19, (eInt .i64 t19)), (20, (eInt .i64 t20))]) (.eq (by kernel_rfl)) ?_
            replace hO := hO.pick (L' := [(lo20, 2, List.map e_api_Jump (out6 ++ ([List.getD t18 (Int.toNat t20) default])))]) [0] (by decide) (by kernel_rfl)
            refine E_done (blockA_normal (thenA_normal (?_)))
            refine A_cl (C_region ttOk (n := 2) (by kernel_rfl) (by kernel_rfl) ?_)
            refine R_all (Ds := []) (by kernel_rfl) trivial ?_
            refine E_has (l := [(1, (eInt .i64 t1)), (6, (.msl 2 lo20 0 (List.length (out6 ++ ([List.getD t18 (Int.toNat t20) default]))))), (7, (eInt .i64 (IntKind.i64.wrap (v7 + ((List.getD t18 (Int.toNat t20) default).Net))))), (18, (eL e_api_Jump t18)), (19, (eInt .i64 t19)), (20, (eInt .i64 (IntKind.i64.wrap (t20 + (1 : Int)))))]) (.eq (by kernel_rfl)) ?_
            exact E_done (thenA_normal (⟨rfl, (out6 ++ ([List.getD t18 (Int.toNat t20) default]), IntKind.i64.wrap (v7 + ((List.getD t18 (Int.toNat t20) default).Net)), IntKind.i64.wrap (t20 + (1 : Int))), (Option.some.inj h1).symm, lo20, .eq (by kernel_rfl), hO⟩))
        · replace h1 := condF hc23 h1
          refine A_cl (C_exit (id := 0) (by kernel_rfl) (by kernel_rfl) ?_)
          refine E_has (l := [(1, (eInt .i64 t1)), (6, (.msl 2 lo17 0 (List.length out6))), (7, (eInt .i64 v7))]) (.eq (by kernel_rfl)) ?_
          obtain rfl := Option.some.inj h1
          obtain rfl : _ = rr0 := ho0
          replace h0 : step_Ahead_j1 t1 out6 v7 = some r := h0
          exact E_done (thenA_exit (thenA_exit (blockA_hit (thenA_normal (⟨rfl, out6, v7, lo17, .eq (by kernel_rfl), hO, h0⟩)))))

theorem w_ref09_Ahead (f0 : (List api_Jump)) (t1 : Int) (r : ((List api_Jump) × Int)) (h0 : s_ref09_Ahead f0 t1 = some r) : Fine Try.prog 28 [(eL e_api_Jump f0), (eInt .i64 t1)] (.tup [(eL e_api_Jump r.1), (eInt .i64 r.2)]) := by
  intro H0
  refine F_walk Try.func28 (by kernel_rfl) (by kernel_rfl) (by kernel_rfl) ?_
  have hO := Owns.start H0
  unfold s_ref09_Ahead at h0
  refine C_seq (by kernel_rfl) ?_
  refine A_cl (C_region ttOk (n := 2) (by kernel_rfl) (by kernel_rfl) ?_)
  refine R_all (Ds := []) (by kernel_rfl) trivial ?_
  refine E_has (l := [(0, (eL e_api_Jump f0)), (1, (eInt .i64 t1))]) (.eq (by kernel_rfl)) ?_
  refine E_done (thenA_normal (?_))
  refine C_seq (by kernel_rfl) ?_
  refine C_seq (by kernel_rfl) ?_
  refine A_cl (C_region ttOk (n := 3) (by kernel_rfl) (by kernel_rfl) ?_)
  refine R_pure 1 (by kernel_rfl) (Ds := []) (by kernel_rfl) trivial ?_
  obtain ⟨x1, hx2, h0⟩ := bindE h0
  refine R_callO [] 16 [(eL e_api_Jump f0)] (eBool x1) true (by kernel_rfl) (by kernel_rfl) (by kernel_rfl) (fun hb3 => (w_ref09_May f0 _ hx2)) hO ?_
  intro H hO
  refine R_all (Ds := []) (by kernel_rfl) trivial ?_
  refine E_has (l := [(0, (eL e_api_Jump f0)), (1, (eInt .i64 t1)), (12, (eBool (!x1)))]) (.eq (by kernel_rfl)) ?_
  refine E_done (thenA_normal (?_))
  refine C_cond (b := !x1) (by kernel_rfl) (by kernel_rfl) (fun hc29 => ?_) (fun hc29 => ?_)
  · replace h0 := condT hc29 h0
    refine C_seq (by kernel_rfl) ?_
    refine A_cl (C_region ttOk (n := 2) (by kernel_rfl) (by kernel_rfl) ?_)
    refine R_all (Ds := []) (by kernel_rfl) trivial ?_
    refine E_has (l := [(4, (.sl true 0 (fun _ => .bad))), (5, (eInt .i64 (2 : Int)))]) (.eq (by kernel_rfl)) ?_
    refine E_done (thenA_normal (?_))
    refine A_cl (C_ret (by kernel_rfl) ?_)
    refine E_has (l := [(4, (eL e_api_Jump ([]))), (5, (eInt .i64 (2 : Int)))]) ⟨[(4, (.sl true 0 (fun _ => .bad))), (5, (eInt .i64 (2 : Int)))], by kernel_rfl, rfl, ⟨subNilL, SubV.refl _, trivial⟩⟩ ?_
    obtain rfl := Option.some.inj h0
    exact E_done (thenA_ret (Q_ret (x := (.tup [(eL e_api_Jump ([])), (eInt .i64 (2 : Int))])) (by kernel_rfl) (SubV.refl _) ⟨rfl, hO.out⟩))
  · replace h0 := condF hc29 h0
    refine A_cl (C_skip (by kernel_rfl) ?_)
    refine E_has (l := [(0, (eL e_api_Jump f0)), (1, (eInt .i64 t1))]) (.eq (by kernel_rfl)) ?_
    refine E_done (thenA_normal (?_))
    refine C_seq (by kernel_rfl) ?_
    refine A_cl (C_region ttOk (n := 3) (by kernel_rfl) (by kernel_rfl) ?_)
    refine R_pure 1 (by kernel_rfl) (Ds := []) (by kernel_rfl) trivial ?_
    obtain ⟨x4, hx5, h0⟩ := bindE h0
    refine R_callO [] 46 [(eL e_api_Jump f0), (.sl true 0 (fun _ => .bad))] (eL (eInt .i64) x4) true (by kernel_rfl) (by kernel_rfl) (by kernel_rfl) (fun hb6 => (Fine.sub (w_ref09_Places f0 ([]) _ hx5) ⟨SubV.refl _, subNilL, trivial⟩)) hO ?_
    intro H hO
    refine R_all (Ds := []) (by kernel_rfl) trivial ?_
    refine E_has (l := [(0, (eL e_api_Jump f0)), (1, (eInt .i64 t1)), (6, (eL (eInt .i64) x4))]) (.eq (by kernel_rfl)) ?_
    refine E_done (thenA_normal (?_))
    refine C_seqJ (by kernel_rfl) (fun T H => ∃ places6 : (List Int), Has T [(0, (eL e_api_Jump f0)), (1, (eInt .i64 t1)), (6, (eL (eInt .i64) places6))] ∧ Owns ⟨H0, []⟩ H [] ∧ ref09_Ahead_j1 f0 t1 places6 = some r) ?_ ?_
    · clear hO h0
      rintro T H ⟨places6, hT, hO, h0⟩
      refine C_has hT ?_
      clear hT
      unfold ref09_Ahead_j1 at h0
      refine C_seq (by kernel_rfl) ?_
      refine A_cl (C_region ttOk (n := 2) (by kernel_rfl) (by kernel_rfl) ?_)
      refine R_bsl (xs := []) (k := 1) (by kernel_rfl) (by kernel_rfl) ?_
      refine R_all (Ds := []) (by kernel_rfl) trivial ?_
      refine E_has (l := [(0, (eL e_api_Jump f0)), (1, (eInt .i64 t1)), (6, (eL (eInt .i64) places6)), (7, (.sl true 0 (fun _ => .bad)))]) (.eq (by kernel_rfl)) ?_
      refine E_done (thenA_normal (?_))
      refine C_seqJ (by kernel_rfl) (fun T H => ∃ values7 : List Int, ∃ lo7 : Nat, Has T [(6, (eL (eInt .i64) places6)), (7, (.msl 1 lo7 0 (List.length values7)))] ∧ Owns ⟨H0, []⟩ H [(lo7, 1, List.map (eInt .i64) values7)] ∧ ref09_Ahead_j2 places6 values7 = some r) ?_ ?_
      · clear hO h0
        rintro T H ⟨values7, lo7, hT, hO, h0⟩
        refine C_has hT ?_
        clear hT
        unfold ref09_Ahead_j2 at h0
        refine C_seq (by kernel_rfl) ?_
        refine A_cl (C_region ttOk (n := 7) (by kernel_rfl) (by kernel_rfl) ?_)
        refine R_freezeO (e := (eInt .i64)) values7 0 7 1 lo7 (List.length values7) [] (by kernel_rfl) hO (by kernel_rfl) (by kernel_rfl) (by kernel_rfl) (by kernel_rfl) ?_
        intro H hO
        refine R_pure 2 (by kernel_rfl) (Ds := []) (by kernel_rfl) trivial ?_
        obtain ⟨x8, hx9, h0⟩ := bindE h0
        refine R_callO [] 42 [(eL (eInt .i64) places6), (eL (eInt .i64) values7)] (.tup [(eL e_api_Jump x8.1), (eInt .i64 x8.2)]) true (by kernel_rfl) (by kernel_rfl) (by kernel_rfl) (fun hb10 => (w_ref09_Told places6 values7 _ hx9)) hO ?_
        intro H hO
        refine R_all (Ds := []) (by kernel_rfl) trivial ?_
        refine E_has (l := [(4, (eL e_api_Jump x8.1)), (5, (eInt .i64 x8.2))]) (.eq (by kernel_rfl)) ?_
        refine E_done (thenA_normal (?_))
        refine A_cl (C_ret (by kernel_rfl) ?_)
        refine E_has (l := [(4, (eL e_api_Jump x8.1)), (5, (eInt .i64 x8.2))]) (.eq (by kernel_rfl)) ?_
        obtain rfl := Option.some.inj h0
        exact E_done (Q_ret (x := (.tup [(eL e_api_Jump x8.1), (eInt .i64 x8.2)])) (by kernel_rfl) (SubV.refl _) ⟨rfl, hO.out⟩)
      · refine C_seq (by kernel_rfl) ?_
        refine A_cl (C_region ttOk (n := 1) (by kernel_rfl) (by kernel_rfl) ?_)
        refine R_all (Ds := []) (by kernel_rfl) trivial ?_
        refine E_has (l := [(0, (eL e_api_Jump f0)), (1, (eInt .i64 t1)), (6, (eL (eInt .i64) places6)), (7, (.sl true 0 (fun _ => .bad))), (8, (eInt .i64 (0 : Int)))]) (.eq (by kernel_rfl)) ?_
        refine E_done (thenA_normal (?_))
        refine C_block (id := 0) (by kernel_rfl) (by kernel_rfl) ?_
        refine C_has (l := [(0, (eL e_api_Jump f0)), (1, (eInt .i64 t1)), (6, (eL (eInt .i64) places6)), (7, (.sl true 0 (fun _ => .bad))), (8, (eInt .i64 (0 : Int)))]) (.eq (by kernel_rfl)) ?_
        refine C_ownO (el := (fun _ => .bad)) 3 7 1 hO (by kernel_rfl) ?_
        intro lo23 H24 hO
        refine C_cut (fun T H => ∃ values7 : List Int, ∃ i8 : Int, ∃ lo12 : Nat, Has T [(0, (eL e_api_Jump f0)), (1, (eInt .i64 t1)), (6, (eL (eInt .i64) places6)), (7, (.msl 1 lo12 0 (List.length values7))), (8, (eInt .i64 i8))] ∧ Owns ⟨H0, []⟩ H [(lo12, 1, List.map (eInt .i64) values7)] ∧ ref09_Ahead_h3 f0 t1 places6 values7 i8 = some r) ?_ ⟨([] : List Int), (0 : Int), lo23, .eq (by kernel_rfl), hO, h0⟩
        clear hO h0
        rintro T H ⟨values7, i8, lo12, hT, hO, h0⟩
        refine C_has hT ?_
        clear hT
        unfold ref09_Ahead_h3 at h0
        obtain ⟨rr0, hl0, h0⟩ := bindE h0
        refine C_loopS (by kernel_rfl) (fun (s : List Int × Int) T H => ∃ lo12 : Nat, Has T [(0, (eL e_api_Jump f0)), (1, (eInt .i64 t1)), (6, (eL (eInt .i64) places6)), (7, (.msl 1 lo12 0 (List.length s.1))), (8, (eInt .i64 s.2))] ∧ Owns ⟨H0, []⟩ H [(lo12, 1, List.map (eInt .i64) s.1)]) hl0 ⟨lo12, .eq (by kernel_rfl), hO⟩ ?_
        clear hO
        rintro k0 s out1 T H ⟨lo12, hT, hO⟩ h1 ho0
        obtain ⟨values7, i8⟩ := s
        replace h1 : ref09_Ahead_l3 f0 t1 places6 values7 i8 = some out1 := h1
        refine C_has (l := [(0, (eL e_api_Jump f0)), (1, (eInt .i64 t1)), (6, (eL (eInt .i64) places6)), (7, (.msl 1 lo12 0 (List.length values7))), (8, (eInt .i64 i8))]) hT ?_
        clear hT
        unfold ref09_Ahead_l3 at h1
        refine C_seq (by kernel_rfl) ?_
        refine C_seq (by kernel_rfl) ?_
        refine A_cl (C_region ttOk (n := 4) (by kernel_rfl) (by kernel_rfl) ?_)
        refine R_all (Ds := []) (by kernel_rfl) trivial ?_
        refine E_has (l := [(0, (eL e_api_Jump f0)), (1, (eInt .i64 t1)), (6, (eL (eInt .i64) places6)), (7, (.msl 1 lo12 0 (List.length values7))), (8, (eInt .i64 i8)), (28, (eBool (decide (i8 < ((List.length places6 : Nat) : Int)))))]) (.eq (by kernel_rfl)) ?_
        refine E_done (thenA_normal (?_))
        refine C_cond (b := decide (i8 < ((List.length places6 : Nat) : Int))) (by kernel_rfl) (by kernel_rfl) (fun hc22 => ?_) (fun hc22 => ?_)
        · replace h1 := condT hc22 h1
          refine A_cl (C_skip (by kernel_rfl) ?_)
          refine E_has (l := [(0, (eL e_api_Jump f0)), (1, (eInt .i64 t1)), (6, (eL (eInt .i64) places6)), (7, (.msl 1 lo12 0 (List.length values7))), (8, (eInt .i64 i8))]) (.eq (by kernel_rfl)) ?_
          refine E_done (thenA_normal (?_))
          refine C_seq (by kernel_rfl) ?_
          refine C_block (id := 1) (by kernel_rfl) (by kernel_rfl) ?_
          refine C_seq (by kernel_rfl) ?_
          refine A_cl (C_region ttOk (n := 1) (by kernel_rfl) (by kernel_rfl) ?_)
          refine R_all (Ds := []) (by kernel_rfl) trivial ?_
          refine E_has (l := [(0, (eL e_api_Jump f0)), (1, (eInt .i64 t1)), (6, (eL (eInt .i64) places6)), (7, (.msl 1 lo12 0 (List.length values7))), (8, (eInt .i64 i8)), (9, (eInt .i64 (0 : Int)))]) (.eq (by kernel_rfl)) ?_
          refine E_done (thenA_normal (?_))
          refine C_seqJ (by kernel_rfl) (fun T H => ∃ values7 : List Int, ∃ v9 : Int, ∃ lo13 : Nat, Has T [(0, (eL e_api_Jump f0)), (1, (eInt .i64 t1)), (6, (eL (eInt .i64) places6)), (7, (.msl 1 lo13 0 (List.length values7))), (8, (eInt .i64 i8)), (9, (eInt .i64 v9))] ∧ Owns ⟨H0, []⟩ H [(lo13, 1, List.map (eInt .i64) values7)] ∧ ref09_Ahead_j4 f0 t1 places6 values7 i8 v9 = some out1) ?_ ?_
          · clear hO h1
            rintro T H ⟨values7, v9, lo13, hT, hO, h1⟩
            refine C_has hT ?_
            clear hT
            unfold ref09_Ahead_j4 at h1
            refine A_cl (C_region ttOk (n := 5) (by kernel_rfl) (by kernel_rfl) ?_)
            refine R_pure 2 (by kernel_rfl) (Ds := []) (by kernel_rfl) trivial ?_
            refine R_bsl (xs := [(eInt .i64 v9)]) (k := 1) (by kernel_rfl) (by kernel_rfl) ?_
            obtain ⟨c15, h1⟩ := asrtE h1
            refine R_appOL (e := (eInt .i64)) values7 ([v9]) 0 lo13 1 8 (frozenOf [(eInt .i64 v9)]) (fun lo14 => [(lo14, 1, List.map (eInt .i64) (values7 ++ ([v9])))]) (by kernel_rfl) (by kernel_rfl) hO (by kernel_rfl) (by kernel_rfl) c15 (fun _ => by kernel_rfl) ?_
            intro lo14 H hO
            refine R_all (Ds := []) (by kernel_rfl) trivial ?_
            refine E_has (l := [(0, (eL e_api_Jump f0)), (1, (eInt .i64 t1)), (6, (eL (eInt .i64) places6)), (7, (.msl 1 lo14 0 (List.length (values7 ++ ([v9]))))), (8, (eInt .i64 i8))]) (.eq (by kernel_rfl)) ?_
            refine E_done (blockA_normal (thenA_normal (?_)))
            refine A_cl (C_region ttOk (n := 3) (by kernel_rfl) (by kernel_rfl) ?_)
            refine R_all (Ds := []) (by kernel_rfl) trivial ?_
            refine E_has (l := [(0, (eL e_api_Jump f0)), (1, (eInt .i64 t1)), (6, (eL (eInt .i64) places6)), (7, (.msl 1 lo14 0 (List.length (values7 ++ ([v9]))))), (8, (eInt .i64 (IntKind.i64.wrap (i8 + (1 : Int)))))]) (.eq (by kernel_rfl)) ?_
            exact E_done (thenA_normal (⟨rfl, (values7 ++ ([v9]), IntKind.i64.wrap (i8 + (1 : Int))), (Option.some.inj h1).symm, lo14, .eq (by kernel_rfl), hO⟩))
          · refine C_seq (by kernel_rfl) ?_
            refine A_cl (C_region ttOk (n := 6) (by kernel_rfl) (by kernel_rfl) ?_)
            obtain ⟨c16, h1⟩ := asrtE h1
            refine R_all (Ds := [0 ≤ i8 ∧ i8 < ((List.length places6 : Nat) : Int)]) (by kernel_rfl) ⟨c16, trivial⟩ ?_
            refine E_has (l := [(0, (eL e_api_Jump f0)), (1, (eInt .i64 t1)), (6, (eL (eInt .i64) places6)), (7, (.msl 1 lo12 0 (List.length values7))), (8, (eInt .i64 i8)), (9, (eInt .i64 (0 : Int))), (36, (eBool (decide ((List.getD places6 (Int.toNat i8) default) < t1))))]) (.eq (by kernel_rfl)) ?_
            refine E_done (thenA_normal (?_))
            refine C_cond (b := decide ((List.getD places6 (Int.toNat i8) default) < t1)) (by kernel_rfl) (by kernel_rfl) (fun hc21 => ?_) (fun hc21 => ?_)
            · replace h1 := condT hc21 h1
              refine A_cl (C_region ttOk (n := 7) (by kernel_rfl) (by kernel_rfl) ?_)
              obtain ⟨c17, h1⟩ := asrtE h1
              refine R_pure 5 (by kernel_rfl) (Ds := [0 ≤ i8 ∧ i8 < ((List.length places6 : Nat) : Int)]) (by kernel_rfl) ⟨c17, trivial⟩ ?_
              obtain ⟨x18, hx19, h1⟩ := bindE h1
              refine R_callO [] 41 [(eL e_api_Jump f0), (eInt .i64 (List.getD places6 (Int.toNat i8) default))] (eInt .i64 x18) true (by kernel_rfl) (by kernel_rfl) (by kernel_rfl) (fun hb20 => (w_ref09_Value f0 (List.getD places6 (Int.toNat i8) default) _ hx19)) hO ?_
              intro H hO
              refine R_all (Ds := []) (by kernel_rfl) trivial ?_
              refine E_has (l := [(0, (eL e_api_Jump f0)), (1, (eInt .i64 t1)), (6, (eL (eInt .i64) places6)), (7, (.msl 1 lo12 0 (List.length values7))), (8, (eInt .i64 i8)), (9, (eInt .i64 x18))]) (.eq (by kernel_rfl)) ?_
              exact E_done (thenA_normal (⟨rfl, values7, x18, lo12, .eq (by kernel_rfl), hO, h1⟩))
            · replace h1 := condF hc21 h1
              refine A_cl (C_skip (by kernel_rfl) ?_)
              refine E_has (l := [(0, (eL e_api_Jump f0)), (1, (eInt .i64 t1)), (6, (eL (eInt .i64) places6)), (7, (.msl 1 lo12 0 (List.length values7))), (8, (eInt .i64 i8)), (9, (eInt .i64 (0 : Int)))]) (.eq (by kernel_rfl)) ?_
              exact E_done (thenA_normal (⟨rfl, values7, (0 : Int), lo12, .eq (by kernel_rfl), hO, h1⟩))
        · replace h1 := condF hc22 h1
          refine A_cl (C_exit (id := 0) (by kernel_rfl) (by kernel_rfl) ?_)
          refine E_has (l := [(6, (eL (eInt .i64) places6)), (7, (.msl 1 lo12 0 (List.length values7)))]) (.eq (by kernel_rfl)) ?_
          obtain rfl := Option.some.inj h1
          obtain rfl : _ = rr0 := ho0
          replace h0 : ref09_Ahead_j2 places6 values7 = some r := h0
          exact E_done (thenA_exit (thenA_exit (blockA_hit (thenA_normal (⟨rfl, values7, lo12, .eq (by kernel_rfl), hO, h0⟩)))))
    · refine C_seq (by kernel_rfl) ?_
      refine A_cl (C_region ttOk (n := 6) (by kernel_rfl) (by kernel_rfl) ?_)
      refine R_all (Ds := []) (by kernel_rfl) trivial ?_
      refine E_has (l := [(0, (eL e_api_Jump f0)), (1, (eInt .i64 t1)), (6, (eL (eInt .i64) x4)), (20, (eBool ((decide ((-1 : Int) ≤ t1)) && (decide (t1 < (1125899906842624 : Int))))))]) (.eq (by kernel_rfl)) ?_
      refine E_done (thenA_normal (?_))
      refine C_cond (b := (decide ((-1 : Int) ≤ t1)) && (decide (t1 < (1125899906842624 : Int)))) (by kernel_rfl) (by kernel_rfl) (fun hc28 => ?_) (fun hc28 => ?_)
      · replace h0 := condT hc28 h0
        refine A_cl (C_region ttOk (n := 4) (by kernel_rfl) (by kernel_rfl) ?_)
        refine R_pure 2 (by kernel_rfl) (Ds := []) (by kernel_rfl) trivial ?_
        obtain ⟨x25, hx26, h0⟩ := bindE h0
        refine R_callO [] 40 [(eL (eInt .i64) x4), (eInt .i64 t1)] (eL (eInt .i64) x25) true (by kernel_rfl) (by kernel_rfl) (by kernel_rfl) (fun hb27 => (w_ref09_With x4 t1 _ hx26)) hO ?_
        intro H hO
        refine R_all (Ds := []) (by kernel_rfl) trivial ?_
        refine E_has (l := [(0, (eL e_api_Jump f0)), (1, (eInt .i64 t1)), (6, (eL (eInt .i64) x25))]) (.eq (by kernel_rfl)) ?_
        exact E_done (thenA_normal (⟨rfl, x25, .eq (by kernel_rfl), hO, h0⟩))
      · replace h0 := condF hc28 h0
        refine A_cl (C_skip (by kernel_rfl) ?_)
        refine E_has (l := [(0, (eL e_api_Jump f0)), (1, (eInt .i64 t1)), (6, (eL (eInt .i64) x4))]) (.eq (by kernel_rfl)) ?_
        exact E_done (thenA_normal (⟨rfl, x4, .eq (by kernel_rfl), hO, h0⟩))

theorem w_step_Rest (f0 : (List api_Jump)) (t1 : Int) (r : ((List api_Jump) × Int)) (h0 : s_step_Rest f0 t1 = some r) : Fine Try.prog 29 [(eL e_api_Jump f0), (eInt .i64 t1)] (.tup [(eL e_api_Jump r.1), (eInt .i64 r.2)]) := by
  intro H0
  refine F_walk Try.func29 (by kernel_rfl) (by kernel_rfl) (by kernel_rfl) ?_
  have hO := Owns.start H0
  unfold s_step_Rest at h0
  refine C_seq (by kernel_rfl) ?_
  refine A_cl (C_region ttOk (n := 2) (by kernel_rfl) (by kernel_rfl) ?_)
  refine R_all (Ds := []) (by kernel_rfl) trivial ?_
  refine E_has (l := [(0, (eL e_api_Jump f0)), (1, (eInt .i64 t1))]) (.eq (by kernel_rfl)) ?_
  refine E_done (thenA_normal (?_))
  refine C_seq (by kernel_rfl) ?_
  refine C_block (id := 0) (by kernel_rfl) (by kernel_rfl) ?_
  refine C_seq (by kernel_rfl) ?_
  refine A_cl (C_region ttOk (n := 4) (by kernel_rfl) (by kernel_rfl) ?_)
  refine R_pure 1 (by kernel_rfl) (Ds := []) (by kernel_rfl) trivial ?_
  obtain ⟨x1, hx2, h0⟩ := bindE h0
  refine R_callO [] 15 [(eL e_api_Jump f0)] (eBool x1) true (by kernel_rfl) (by kernel_rfl) (by kernel_rfl) (fun hb3 => (w_step_May f0 _ hx2)) hO ?_
  intro H hO
  refine R_all (Ds := []) (by kernel_rfl) trivial ?_
  refine E_has (l := [(0, (eL e_api_Jump f0)), (1, (eInt .i64 t1)), (9, (eBool (!x1)))]) (.eq (by kernel_rfl)) ?_
  refine E_done (thenA_normal (?_))
  refine C_cond (b := !x1) (by kernel_rfl) (by kernel_rfl) (fun hc28 => ?_) (fun hc28 => ?_)
  · replace h0 := condT hc28 h0
    refine C_seq (by kernel_rfl) ?_
    refine A_cl (C_region ttOk (n := 2) (by kernel_rfl) (by kernel_rfl) ?_)
    refine R_all (Ds := []) (by kernel_rfl) trivial ?_
    refine E_has (l := [(4, (.sl true 0 (fun _ => .bad))), (5, (eInt .i64 (2 : Int)))]) (.eq (by kernel_rfl)) ?_
    refine E_done (thenA_normal (?_))
    refine A_cl (C_ret (by kernel_rfl) ?_)
    refine E_has (l := [(4, (eL e_api_Jump ([]))), (5, (eInt .i64 (2 : Int)))]) ⟨[(4, (.sl true 0 (fun _ => .bad))), (5, (eInt .i64 (2 : Int)))], by kernel_rfl, rfl, ⟨subNilL, SubV.refl _, trivial⟩⟩ ?_
    obtain rfl := Option.some.inj h0
    exact E_done (blockA_ret (thenA_ret (Q_ret (x := (.tup [(eL e_api_Jump ([])), (eInt .i64 (2 : Int))])) (by kernel_rfl) (SubV.refl _) ⟨rfl, hO.out⟩)))
  · replace h0 := condF hc28 h0
    refine C_seq (by kernel_rfl) ?_
    refine A_cl (C_region ttOk (n := 3) (by kernel_rfl) (by kernel_rfl) ?_)
    refine R_all (Ds := []) (by kernel_rfl) trivial ?_
    refine E_has (l := [(0, (eL e_api_Jump f0)), (1, (eInt .i64 t1)), (13, (eBool (decide ((1125899906842624 : Int) ≤ t1))))]) (.eq (by kernel_rfl)) ?_
    refine E_done (thenA_normal (?_))
    refine C_cond (b := decide ((1125899906842624 : Int) ≤ t1)) (by kernel_rfl) (by kernel_rfl) (fun hc27 => ?_) (fun hc27 => ?_)
    · replace h0 := condT hc27 h0
      refine C_seq (by kernel_rfl) ?_
      refine A_cl (C_region ttOk (n := 2) (by kernel_rfl) (by kernel_rfl) ?_)
      refine R_all (Ds := []) (by kernel_rfl) trivial ?_
      refine E_has (l := [(4, (.sl true 0 (fun _ => .bad))), (5, (eInt .i64 (0 : Int)))]) (.eq (by kernel_rfl)) ?_
      refine E_done (thenA_normal (?_))
      refine A_cl (C_ret (by kernel_rfl) ?_)
      refine E_has (l := [(4, (eL e_api_Jump ([]))), (5, (eInt .i64 (0 : Int)))]) ⟨[(4, (.sl true 0 (fun _ => .bad))), (5, (eInt .i64 (0 : Int)))], by kernel_rfl, rfl, ⟨subNilL, SubV.refl _, trivial⟩⟩ ?_
      obtain rfl := Option.some.inj h0
      exact E_done (blockA_ret (thenA_ret (Q_ret (x := (.tup [(eL e_api_Jump ([])), (eInt .i64 (0 : Int))])) (by kernel_rfl) (SubV.refl _) ⟨rfl, hO.out⟩)))
    · replace h0 := condF hc27 h0
      refine C_seq (by kernel_rfl) ?_
      refine A_cl (C_region ttOk (n := 3) (by kernel_rfl) (by kernel_rfl) ?_)
      refine R_all (Ds := []) (by kernel_rfl) trivial ?_
      refine E_has (l := [(0, (eL e_api_Jump f0)), (1, (eInt .i64 t1)), (16, (eBool (decide (t1 ≤ (-1 : Int)))))]) (.eq (by kernel_rfl)) ?_
      refine E_done (thenA_normal (?_))
      refine C_cond (b := decide (t1 ≤ (-1 : Int))) (by kernel_rfl) (by kernel_rfl) (fun hc26 => ?_) (fun hc26 => ?_)
      · replace h0 := condT hc26 h0
        refine C_seq (by kernel_rfl) ?_
        refine A_cl (C_region ttOk (n := 4) (by kernel_rfl) (by kernel_rfl) ?_)
        refine R_pure 1 (by kernel_rfl) (Ds := []) (by kernel_rfl) trivial ?_
        obtain ⟨x4, hx5, h0⟩ := bindE h0
        refine R_callP (L' := fun lo6 => [(lo6, 2, List.map e_api_Jump x4)]) 2 (List.map e_api_Jump x4) 35 [(eL e_api_Jump f0)] (fun lo6 => (.msl 2 lo6 0 (List.length x4))) (by kernel_rfl) (by kernel_rfl) (w_slices_Clone_api_Jump_api_Jump f0 _ hx5) hO (fun _ => by kernel_rfl) ?_
        intro lo6 H hO
        refine R_all (Ds := []) (by kernel_rfl) trivial ?_
        refine E_has (l := [(4, (.msl 2 lo6 0 (List.length x4))), (5, (eInt .i64 (0 : Int)))]) (.eq (by kernel_rfl)) ?_
        refine E_done (thenA_normal (?_))
        refine A_cl (C_ret (by kernel_rfl) ?_)
        refine E_has (l := [(4, (.msl 2 lo6 0 (List.length x4))), (5, (eInt .i64 (0 : Int)))]) (.eq (by kernel_rfl)) ?_
        refine E_freezeO (en := e_api_Jump) x4 0 0 4 2 lo6 (List.length x4) hO (by kernel_rfl) (by kernel_rfl) (by kernel_rfl) (L' := []) (by kernel_rfl) ?_
        intro H7 hO
        obtain rfl := Option.some.inj h0
        exact E_done (blockA_ret (thenA_ret (Q_ret (x := (.tup [(eL e_api_Jump x4), (eInt .i64 (0 : Int))])) (by kernel_rfl) (SubV.refl _) ⟨rfl, hO.out⟩)))
      · replace h0 := condF hc26 h0
        refine A_cl (C_skip (by kernel_rfl) ?_)
        refine E_has (l := [(0, (eL e_api_Jump f0)), (1, (eInt .i64 t1))]) (.eq (by kernel_rfl)) ?_
        refine E_done (blockA_normal (thenA_normal (?_)))
        refine C_seq (by kernel_rfl) ?_
        refine A_cl (C_region ttOk (n := 2) (by kernel_rfl) (by kernel_rfl) ?_)
        refine R_all (Ds := []) (by kernel_rfl) trivial ?_
        refine E_has (l := [(0, (eL e_api_Jump f0)), (1, (eInt .i64 t1)), (6, (eInt .i64 (0 : Int))), (7, (eInt .i64 (0 : Int)))]) (.eq (by kernel_rfl)) ?_
        refine E_done (thenA_normal (?_))
        refine C_seqJ (by kernel_rfl) (fun T H => ∃ v6 : Int, ∃ at7 : Int, Has T [(0, (eL e_api_Jump f0)), (6, (eInt .i64 v6)), (7, (eInt .i64 at7))] ∧ Owns ⟨H0, []⟩ H [] ∧ step_Rest_j1 f0 v6 at7 = some r) ?_ ?_
        · clear hO h0
          rintro T H ⟨v6, at7, hT, hO, h0⟩
          refine C_has hT ?_
          clear hT
          unfold step_Rest_j1 at h0
          refine C_seq (by kernel_rfl) ?_
          refine A_cl (C_region ttOk (n := 2) (by kernel_rfl) (by kernel_rfl) ?_)
          refine R_bsl (xs := []) (k := 2) (by kernel_rfl) (by kernel_rfl) ?_
          refine R_all (Ds := []) (by kernel_rfl) trivial ?_
          refine E_has (l := [(0, (eL e_api_Jump f0)), (6, (eInt .i64 v6)), (7, (eInt .i64 at7)), (8, (.sl true 0 (fun _ => .bad)))]) (.eq (by kernel_rfl)) ?_
          refine E_done (thenA_normal (?_))
          refine C_seqJ (by kernel_rfl) (fun T H => ∃ out8 : List api_Jump, ∃ lo8 : Nat, Has T [(0, (eL e_api_Jump f0)), (7, (eInt .i64 at7)), (8, (.msl 2 lo8 0 (List.length out8)))] ∧ Owns ⟨H0, []⟩ H [(lo8, 2, List.map e_api_Jump out8)] ∧ step_Rest_j2 f0 at7 out8 = some r) ?_ ?_
          · clear hO h0
            rintro T H ⟨out8, lo8, hT, hO, h0⟩
            refine C_has hT ?_
            clear hT
            unfold step_Rest_j2 at h0
            refine C_seq (by kernel_rfl) ?_
            refine A_cl (C_region ttOk (n := 10) (by kernel_rfl) (by kernel_rfl) ?_)
            obtain ⟨c12, h0⟩ := asrtE h0
            refine R_pure 4 (by kernel_rfl) (Ds := [0 ≤ at7 ∧ at7 ≤ ((List.length f0 : Nat) : Int)]) (by kernel_rfl) ⟨c12, trivial⟩ ?_
            obtain ⟨c14, h0⟩ := asrtE h0
            refine R_appOL (e := e_api_Jump) out8 (List.drop (Int.toNat at7) f0) 0 lo8 2 16 (.sl false (List.length f0 - Int.toNat at7) (fun i => e_api_Jump (List.getD f0 (Int.toNat at7 + i) default))) (fun lo13 => [(lo13, 2, List.map e_api_Jump (out8 ++ (List.drop (Int.toNat at7) f0)))]) (by kernel_rfl) (by kernel_rfl) hO (by kernel_rfl) (appX_drop (fun _ => by kernel_rfl)) c14 (fun _ => by kernel_rfl) ?_
            intro lo13 H hO
            refine R_freezeO (e := e_api_Jump) (out8 ++ (List.drop (Int.toNat at7) f0)) 0 55 2 lo13 (List.length (out8 ++ (List.drop (Int.toNat at7) f0))) [] (by kernel_rfl) hO (by kernel_rfl) (by kernel_rfl) (by kernel_rfl) (by kernel_rfl) ?_
            intro H hO
            obtain ⟨x15, hx16, h0⟩ := bindE h0
            refine R_callO [] 39 [(eL e_api_Jump (out8 ++ (List.drop (Int.toNat at7) f0)))] (.tup [(eL e_api_Jump x15.1), (eInt .i64 x15.2)]) true (by kernel_rfl) (by kernel_rfl) (by kernel_rfl) (fun hb17 => (w_step_told (out8 ++ (List.drop (Int.toNat at7) f0)) _ hx16)) hO ?_
            intro H hO
            refine R_all (Ds := []) (by kernel_rfl) trivial ?_
            refine E_has (l := [(4, (eL e_api_Jump x15.1)), (5, (eInt .i64 x15.2))]) (.eq (by kernel_rfl)) ?_
            refine E_done (thenA_normal (?_))
            refine A_cl (C_ret (by kernel_rfl) ?_)
            refine E_has (l := [(4, (eL e_api_Jump x15.1)), (5, (eInt .i64 x15.2))]) (.eq (by kernel_rfl)) ?_
            obtain rfl := Option.some.inj h0
            exact E_done (Q_ret (x := (.tup [(eL e_api_Jump x15.1), (eInt .i64 x15.2)])) (by kernel_rfl) (SubV.refl _) ⟨rfl, hO.out⟩)
          · refine C_seq (by kernel_rfl) ?_
            refine A_cl (C_region ttOk (n := 2) (by kernel_rfl) (by kernel_rfl) ?_)
            refine R_all (Ds := []) (by kernel_rfl) trivial ?_
            refine E_has (l := [(0, (eL e_api_Jump f0)), (6, (eInt .i64 v6)), (7, (eInt .i64 at7)), (8, (.sl true 0 (fun _ => .bad))), (45, (eBool (!decide (v6 = (0 : Int)))))]) (.eq (by kernel_rfl)) ?_
            refine E_done (thenA_normal (?_))
            refine C_cond (b := !decide (v6 = (0 : Int))) (by kernel_rfl) (by kernel_rfl) (fun hc22 => ?_) (fun hc22 => ?_)
            · replace h0 := condT hc22 h0
              refine A_cl (C_region ttOk (n := 6) (by kernel_rfl) (by kernel_rfl) ?_)
              refine R_pure 3 (by kernel_rfl) (Ds := []) (by kernel_rfl) trivial ?_
              refine R_bsl (xs := [(e_api_Jump (api_Jump.mk (-1 : Int) v6))]) (k := 2) (by kernel_rfl) (by kernel_rfl) ?_
              obtain ⟨c19, h0⟩ := asrtE h0
              refine R_appNL (e := e_api_Jump) ([api_Jump.mk (-1 : Int) v6]) (fun _ => .bad) 2 16 (frozenOf [(e_api_Jump (api_Jump.mk (-1 : Int) v6))]) (fun lo18 => [(lo18, 2, List.map e_api_Jump ([api_Jump.mk (-1 : Int) v6]))]) (by kernel_rfl) (by kernel_rfl) hO (by kernel_rfl) c19 (fun _ => by kernel_rfl) ?_
              intro lo18 H hO
              refine R_all (Ds := []) (by kernel_rfl) trivial ?_
              refine E_has (l := [(0, (eL e_api_Jump f0)), (7, (eInt .i64 at7)), (8, (.msl 2 lo18 0 (List.length ([api_Jump.mk (-1 : Int) v6]))))]) (.eq (by kernel_rfl)) ?_
              exact E_done (thenA_normal (⟨rfl, [api_Jump.mk (-1 : Int) v6], lo18, .eq (by kernel_rfl), hO, h0⟩))
            · replace h0 := condF hc22 h0
              refine A_cl (C_skip (by kernel_rfl) ?_)
              refine E_has (l := [(0, (eL e_api_Jump f0)), (7, (eInt .i64 at7)), (8, (.sl true 0 (fun _ => .bad)))]) (.eq (by kernel_rfl)) ?_
              refine E_ownO (el := (fun _ => .bad)) 2 8 2 hO (by kernel_rfl) ?_
              intro lo20 H21 hO
              exact E_done (thenA_normal (⟨rfl, ([] : List api_Jump), lo20, .eq (by kernel_rfl), hO, h0⟩))
        · refine C_block (id := 1) (by kernel_rfl) (by kernel_rfl) ?_
          refine C_has (l := [(0, (eL e_api_Jump f0)), (1, (eInt .i64 t1)), (6, (eInt .i64 (0 : Int))), (7, (eInt .i64 (0 : Int)))]) (.eq (by kernel_rfl)) ?_
          refine C_cut (fun T H => ∃ v6 : Int, ∃ at7 : Int, Has T [(0, (eL e_api_Jump f0)), (1, (eInt .i64 t1)), (6, (eInt .i64 v6)), (7, (eInt .i64 at7))] ∧ Owns ⟨H0, []⟩ H [] ∧ step_Rest_h3 f0 t1 v6 at7 = some r) ?_ ⟨(0 : Int), (0 : Int), .eq (by kernel_rfl), hO, h0⟩
          clear hO h0
          rintro T H ⟨v6, at7, hT, hO, h0⟩
          refine C_has hT ?_
          clear hT
          unfold step_Rest_h3 at h0
          obtain ⟨rr0, hl0, h0⟩ := bindE h0
          refine C_loopS (by kernel_rfl) (fun (s : Int × Int) T H => Has T [(0, (eL e_api_Jump f0)), (1, (eInt .i64 t1)), (6, (eInt .i64 s.1)), (7, (eInt .i64 s.2))] ∧ Owns ⟨H0, []⟩ H []) hl0 ⟨.eq (by kernel_rfl), hO⟩ ?_
          clear hO
          rintro k0 s out1 T H ⟨hT, hO⟩ h1 ho0
          obtain ⟨v6, at7⟩ := s
          replace h1 : step_Rest_l3 f0 t1 v6 at7 = some out1 := h1
          refine C_has (l := [(0, (eL e_api_Jump f0)), (1, (eInt .i64 t1)), (6, (eInt .i64 v6)), (7, (eInt .i64 at7))]) hT ?_
          clear hT
          unfold step_Rest_l3 at h1
          refine C_seq (by kernel_rfl) ?_
          refine C_seq (by kernel_rfl) ?_
          refine A_cl (C_region ttOk (n := 13) (by kernel_rfl) (by kernel_rfl) ?_)
          obtain ⟨c23, h1⟩ := asrtE h1
          refine R_all (Ds := [(((decide (at7 < ((List.length f0 : Nat) : Int)))) = true → 0 ≤ at7 ∧ at7 < ((List.length f0 : Nat) : Int))]) (by kernel_rfl) ⟨c23, trivial⟩ ?_
          refine E_has (l := [(0, (eL e_api_Jump f0)), (1, (eInt .i64 t1)), (6, (eInt .i64 v6)), (7, (eInt .i64 at7)), (33, (eBool ((decide (at7 < ((List.length f0 : Nat) : Int))) && (decide (((List.getD f0 (Int.toNat at7) default).At) < t1)))))]) (.eq (by kernel_rfl)) ?_
          refine E_done (thenA_normal (?_))
          refine C_cond (b := (decide (at7 < ((List.length f0 : Nat) : Int))) && (decide (((List.getD f0 (Int.toNat at7) default).At) < t1))) (by kernel_rfl) (by kernel_rfl) (fun hc25 => ?_) (fun hc25 => ?_)
          · replace h1 := condT hc25 h1
            refine A_cl (C_skip (by kernel_rfl) ?_)
            refine E_has (l := [(0, (eL e_api_Jump f0)), (1, (eInt .i64 t1)), (6, (eInt .i64 v6)), (7, (eInt .i64 at7))]) (.eq (by kernel_rfl)) ?_
            refine E_done (thenA_normal (?_))
            refine C_block (id := 2) (by kernel_rfl) (by kernel_rfl) ?_
            refine C_seq (by kernel_rfl) ?_
            refine A_cl (C_region ttOk (n := 8) (by kernel_rfl) (by kernel_rfl) ?_)
            obtain ⟨c24, h1⟩ := asrtE h1
            refine R_all (Ds := [0 ≤ at7 ∧ at7 < ((List.length f0 : Nat) : Int)]) (by kernel_rfl) ⟨c24, trivial⟩ ?_
            refine E_has (l := [(0, (eL e_api_Jump f0)), (1, (eInt .i64 t1)), (6, (eInt .i64 (IntKind.i64.wrap (v6 + ((List.getD f0 (Int.toNat at7) default).Net))))), (7, (eInt .i64 at7))]) (.eq (by kernel_rfl)) ?_
            refine E_done (thenA_normal (?_))
            refine A_cl (C_region ttOk (n := 3) (by kernel_rfl) (by kernel_rfl) ?_)
            refine R_all (Ds := []) (by kernel_rfl) trivial ?_
            refine E_has (l := [(0, (eL e_api_Jump f0)), (1, (eInt .i64 t1)), (6, (eInt .i64 (IntKind.i64.wrap (v6 + ((List.getD f0 (Int.toNat at7) default).Net))))), (7, (eInt .i64 (IntKind.i64.wrap (at7 + (1 : Int)))))]) (.eq (by kernel_rfl)) ?_
            exact E_done (blockA_normal (thenA_normal (⟨rfl, (IntKind.i64.wrap (v6 + ((List.getD f0 (Int.toNat at7) default).Net)), IntKind.i64.wrap (at7 + (1 : Int))), (Option.some.inj h1).symm, .eq (by kernel_rfl), hO⟩)))
          · replace h1 := condF hc25 h1
            refine A_cl (C_exit (id := 1) (by kernel_rfl) (by kernel_rfl) ?_)
            refine E_has (l := [(0, (eL e_api_Jump f0)), (6, (eInt .i64 v6)), (7, (eInt .i64 at7))]) (.eq (by kernel_rfl)) ?_
            obtain rfl := Option.some.inj h1
            obtain rfl : _ = rr0 := ho0
            replace h0 : step_Rest_j1 f0 v6 at7 = some r := h0
            exact E_done (thenA_exit (thenA_exit (blockA_hit (thenA_normal (⟨rfl, v6, at7, .eq (by kernel_rfl), hO, h0⟩)))))

theorem w_ref09_Rest (f0 : (List api_Jump)) (t1 : Int) (r : ((List api_Jump) × Int)) (h0 : s_ref09_Rest f0 t1 = some r) : Fine Try.prog 30 [(eL e_api_Jump f0), (eInt .i64 t1)] (.tup [(eL e_api_Jump r.1), (eInt .i64 r.2)]) := by
  intro H0
  refine F_walk Try.func30 (by kernel_rfl) (by kernel_rfl) (by kernel_rfl) ?_
  have hO := Owns.start H0
  unfold s_ref09_Rest at h0
  refine C_seq (by kernel_rfl) ?_
  refine A_cl (C_region ttOk (n := 2) (by kernel_rfl) (by kernel_rfl) ?_)
  refine R_all (Ds := []) (by kernel_rfl) trivial ?_
  refine E_has (l := [(0, (eL e_api_Jump f0)), (1, (eInt .i64 t1))]) (.eq (by kernel_rfl)) ?_
  refine E_done (thenA_normal (?_))
  refine C_seq (by kernel_rfl) ?_
  refine C_seq (by kernel_rfl) ?_
  refine A_cl (C_region ttOk (n := 3) (by kernel_rfl) (by kernel_rfl) ?_)
  refine R_pure 1 (by kernel_rfl) (Ds := []) (by kernel_rfl) trivial ?_
  obtain ⟨x1, hx2, h0⟩ := bindE h0
  refine R_callO [] 16 [(eL e_api_Jump f0)] (eBool x1) true (by kernel_rfl) (by kernel_rfl) (by kernel_rfl) (fun hb3 => (w_ref09_May f0 _ hx2)) hO ?_
  intro H hO
  refine R_all (Ds := []) (by kernel_rfl) trivial ?_
  refine E_has (l := [(0, (eL e_api_Jump f0)), (1, (eInt .i64 t1)), (12, (eBool (!x1)))]) (.eq (by kernel_rfl)) ?_
  refine E_done (thenA_normal (?_))
  refine C_cond (b := !x1) (by kernel_rfl) (by kernel_rfl) (fun hc28 => ?_) (fun hc28 => ?_)
  · replace h0 := condT hc28 h0
    refine C_seq (by kernel_rfl) ?_
    refine A_cl (C_region ttOk (n := 2) (by kernel_rfl) (by kernel_rfl) ?_)
    refine R_all (Ds := []) (by kernel_rfl) trivial ?_
    refine E_has (l := [(4, (.sl true 0 (fun _ => .bad))), (5, (eInt .i64 (2 : Int)))]) (.eq (by kernel_rfl)) ?_
    refine E_done (thenA_normal (?_))
    refine A_cl (C_ret (by kernel_rfl) ?_)
    refine E_has (l := [(4, (eL e_api_Jump ([]))), (5, (eInt .i64 (2 : Int)))]) ⟨[(4, (.sl true 0 (fun _ => .bad))), (5, (eInt .i64 (2 : Int)))], by kernel_rfl, rfl, ⟨subNilL, SubV.refl _, trivial⟩⟩ ?_
    obtain rfl := Option.some.inj h0
    exact E_done (thenA_ret (Q_ret (x := (.tup [(eL e_api_Jump ([])), (eInt .i64 (2 : Int))])) (by kernel_rfl) (SubV.refl _) ⟨rfl, hO.out⟩))
  · replace h0 := condF hc28 h0
    refine A_cl (C_skip (by kernel_rfl) ?_)
    refine E_has (l := [(0, (eL e_api_Jump f0)), (1, (eInt .i64 t1))]) (.eq (by kernel_rfl)) ?_
    refine E_done (thenA_normal (?_))
    refine C_seq (by kernel_rfl) ?_
    refine C_seq (by kernel_rfl) ?_
    refine A_cl (C_region ttOk (n := 2) (by kernel_rfl) (by kernel_rfl) ?_)
    refine R_all (Ds := []) (by kernel_rfl) trivial ?_
    refine E_has (l := [(0, (eL e_api_Jump f0)), (1, (eInt .i64 t1)), (14, (eBool (decide ((1125899906842624 : Int) ≤ t1))))]) (.eq (by kernel_rfl)) ?_
    refine E_done (thenA_normal (?_))
    refine C_cond (b := decide ((1125899906842624 : Int) ≤ t1)) (by kernel_rfl) (by kernel_rfl) (fun hc27 => ?_) (fun hc27 => ?_)
    · replace h0 := condT hc27 h0
      refine C_seq (by kernel_rfl) ?_
      refine A_cl (C_region ttOk (n := 2) (by kernel_rfl) (by kernel_rfl) ?_)
      refine R_all (Ds := []) (by kernel_rfl) trivial ?_
      refine E_has (l := [(4, (.sl true 0 (fun _ => .bad))), (5, (eInt .i64 (0 : Int)))]) (.eq (by kernel_rfl)) ?_
      refine E_done (thenA_normal (?_))
      refine A_cl (C_ret (by kernel_rfl) ?_)
      refine E_has (l := [(4, (eL e_api_Jump ([]))), (5, (eInt .i64 (0 : Int)))]) ⟨[(4, (.sl true 0 (fun _ => .bad))), (5, (eInt .i64 (0 : Int)))], by kernel_rfl, rfl, ⟨subNilL, SubV.refl _, trivial⟩⟩ ?_
      obtain rfl := Option.some.inj h0
      exact E_done (thenA_ret (Q_ret (x := (.tup [(eL e_api_Jump ([])), (eInt .i64 (0 : Int))])) (by kernel_rfl) (SubV.refl _) ⟨rfl, hO.out⟩))
    · replace h0 := condF hc27 h0
      refine A_cl (C_skip (by kernel_rfl) ?_)
      refine E_has (l := [(0, (eL e_api_Jump f0)), (1, (eInt .i64 t1))]) (.eq (by kernel_rfl)) ?_
      refine E_done (thenA_normal (?_))
      refine C_seq (by kernel_rfl) ?_
      refine A_cl (C_region ttOk (n := 4) (by kernel_rfl) (by kernel_rfl) ?_)
      refine R_pure 1 (by kernel_rfl) (Ds := []) (by kernel_rfl) trivial ?_
      obtain ⟨x4, hx5, h0⟩ := bindE h0
      refine R_callO [] 46 [(eL e_api_Jump f0), (.sl true 0 (fun _ => .bad))] (eL (eInt .i64) x4) true (by kernel_rfl) (by kernel_rfl) (by kernel_rfl) (fun hb6 => (Fine.sub (w_ref09_Places f0 ([]) _ hx5) ⟨SubV.refl _, subNilL, trivial⟩)) hO ?_
      intro H hO
      obtain ⟨x7, hx8, h0⟩ := bindE h0
      refine R_callO [] 40 [(eL (eInt .i64) x4), (eInt .i64 (-1 : Int))] (eL (eInt .i64) x7) true (by kernel_rfl) (by kernel_rfl) (by kernel_rfl) (fun hb9 => (w_ref09_With x4 (-1 : Int) _ hx8)) hO ?_
      intro H hO
      refine R_all (Ds := []) (by kernel_rfl) trivial ?_
      refine E_has (l := [(0, (eL e_api_Jump f0)), (1, (eInt .i64 t1)), (6, (eL (eInt .i64) x7))]) (.eq (by kernel_rfl)) ?_
      refine E_done (thenA_normal (?_))
      refine C_seq (by kernel_rfl) ?_
      refine A_cl (C_region ttOk (n := 2) (by kernel_rfl) (by kernel_rfl) ?_)
      refine R_bsl (xs := []) (k := 1) (by kernel_rfl) (by kernel_rfl) ?_
      refine R_all (Ds := []) (by kernel_rfl) trivial ?_
      refine E_has (l := [(0, (eL e_api_Jump f0)), (1, (eInt .i64 t1)), (6, (eL (eInt .i64) x7)), (7, (.sl true 0 (fun _ => .bad)))]) (.eq (by kernel_rfl)) ?_
      refine E_done (thenA_normal (?_))
      refine C_seqJ (by kernel_rfl) (fun T H => ∃ places6 : (List Int), ∃ values7 : List Int, ∃ lo10 : Nat, Has T [(6, (eL (eInt .i64) places6)), (7, (.msl 1 lo10 0 (List.length values7)))] ∧ Owns ⟨H0, []⟩ H [(lo10, 1, List.map (eInt .i64) values7)] ∧ ref09_Rest_j1 places6 values7 = some r) ?_ ?_
      · clear hO h0
        rintro T H ⟨places6, values7, lo10, hT, hO, h0⟩
        refine C_has hT ?_
        clear hT
        unfold ref09_Rest_j1 at h0
        refine C_seq (by kernel_rfl) ?_
        refine A_cl (C_region ttOk (n := 7) (by kernel_rfl) (by kernel_rfl) ?_)
        refine R_freezeO (e := (eInt .i64)) values7 0 7 1 lo10 (List.length values7) [] (by kernel_rfl) hO (by kernel_rfl) (by kernel_rfl) (by kernel_rfl) (by kernel_rfl) ?_
        intro H hO
        refine R_pure 2 (by kernel_rfl) (Ds := []) (by kernel_rfl) trivial ?_
        obtain ⟨x11, hx12, h0⟩ := bindE h0
        refine R_callO [] 42 [(eL (eInt .i64) places6), (eL (eInt .i64) values7)] (.tup [(eL e_api_Jump x11.1), (eInt .i64 x11.2)]) true (by kernel_rfl) (by kernel_rfl) (by kernel_rfl) (fun hb13 => (w_ref09_Told places6 values7 _ hx12)) hO ?_
        intro H hO
        refine R_all (Ds := []) (by kernel_rfl) trivial ?_
        refine E_has (l := [(4, (eL e_api_Jump x11.1)), (5, (eInt .i64 x11.2))]) (.eq (by kernel_rfl)) ?_
        refine E_done (thenA_normal (?_))
        refine A_cl (C_ret (by kernel_rfl) ?_)
        refine E_has (l := [(4, (eL e_api_Jump x11.1)), (5, (eInt .i64 x11.2))]) (.eq (by kernel_rfl)) ?_
        obtain rfl := Option.some.inj h0
        exact E_done (Q_ret (x := (.tup [(eL e_api_Jump x11.1), (eInt .i64 x11.2)])) (by kernel_rfl) (SubV.refl _) ⟨rfl, hO.out⟩)
      · refine C_seq (by kernel_rfl) ?_
        refine A_cl (C_region ttOk (n := 1) (by kernel_rfl) (by kernel_rfl) ?_)
        refine R_all (Ds := []) (by kernel_rfl) trivial ?_
        refine E_has (l := [(0, (eL e_api_Jump f0)), (1, (eInt .i64 t1)), (6, (eL (eInt .i64) x7)), (7, (.sl true 0 (fun _ => .bad))), (8, (eInt .i64 (0 : Int)))]) (.eq (by kernel_rfl)) ?_
        refine E_done (thenA_normal (?_))
        refine C_block (id := 0) (by kernel_rfl) (by kernel_rfl) ?_
        refine C_has (l := [(0, (eL e_api_Jump f0)), (1, (eInt .i64 t1)), (6, (eL (eInt .i64) x7)), (7, (.sl true 0 (fun _ => .bad))), (8, (eInt .i64 (0 : Int)))]) (.eq (by kernel_rfl)) ?_
        refine C_ownO (el := (fun _ => .bad)) 3 7 1 hO (by kernel_rfl) ?_
        intro lo25 H26 hO
        refine C_cut (fun T H => ∃ places6 : (List Int), ∃ values7 : List Int, ∃ i8 : Int, ∃ lo15 : Nat, Has T [(0, (eL e_api_Jump f0)), (1, (eInt .i64 t1)), (6, (eL (eInt .i64) places6)), (7, (.msl 1 lo15 0 (List.length values7))), (8, (eInt .i64 i8))] ∧ Owns ⟨H0, []⟩ H [(lo15, 1, List.map (eInt .i64) values7)] ∧ ref09_Rest_h2 f0 t1 places6 values7 i8 = some r) ?_ ⟨x7, ([] : List Int), (0 : Int), lo25, .eq (by kernel_rfl), hO, h0⟩
        clear hO h0
        rintro T H ⟨places6, values7, i8, lo15, hT, hO, h0⟩
        refine C_has hT ?_
        clear hT
        unfold ref09_Rest_h2 at h0
        obtain ⟨rr0, hl0, h0⟩ := bindE h0
        refine C_loopS (by kernel_rfl) (fun (s : List Int × Int) T H => ∃ lo15 : Nat, Has T [(0, (eL e_api_Jump f0)), (1, (eInt .i64 t1)), (6, (eL (eInt .i64) places6)), (7, (.msl 1 lo15 0 (List.length s.1))), (8, (eInt .i64 s.2))] ∧ Owns ⟨H0, []⟩ H [(lo15, 1, List.map (eInt .i64) s.1)]) hl0 ⟨lo15, .eq (by kernel_rfl), hO⟩ ?_
        clear hO
        rintro k0 s out1 T H ⟨lo15, hT, hO⟩ h1 ho0
        obtain ⟨values7, i8⟩ := s
        replace h1 : ref09_Rest_l2 f0 t1 places6 values7 i8 = some out1 := h1
        refine C_has (l := [(0, (eL e_api_Jump f0)), (1, (eInt .i64 t1)), (6, (eL (eInt .i64) places6)), (7, (.msl 1 lo15 0 (List.length values7))), (8, (eInt .i64 i8))]) hT ?_
        clear hT
        unfold ref09_Rest_l2 at h1
        refine C_seq (by kernel_rfl) ?_
        refine C_seq (by kernel_rfl) ?_
        refine A_cl (C_region ttOk (n := 4) (by kernel_rfl) (by kernel_rfl) ?_)
        refine R_all (Ds := []) (by kernel_rfl) trivial ?_
        refine E_has (l := [(0, (eL e_api_Jump f0)), (1, (eInt .i64 t1)), (6, (eL (eInt .i64) places6)), (7, (.msl 1 lo15 0 (List.length values7))), (8, (eInt .i64 i8)), (22, (eBool (decide (i8 < ((List.length places6 : Nat) : Int)))))]) (.eq (by kernel_rfl)) ?_
        refine E_done (thenA_normal (?_))
        refine C_cond (b := decide (i8 < ((List.length places6 : Nat) : Int))) (by kernel_rfl) (by kernel_rfl) (fun hc24 => ?_) (fun hc24 => ?_)
        · replace h1 := condT hc24 h1
          refine A_cl (C_skip (by kernel_rfl) ?_)
          refine E_has (l := [(0, (eL e_api_Jump f0)), (1, (eInt .i64 t1)), (6, (eL (eInt .i64) places6)), (7, (.msl 1 lo15 0 (List.length values7))), (8, (eInt .i64 i8))]) (.eq (by kernel_rfl)) ?_
          refine E_done (thenA_normal (?_))
          refine C_seq (by kernel_rfl) ?_
          refine C_block (id := 1) (by kernel_rfl) (by kernel_rfl) ?_
          refine C_seq (by kernel_rfl) ?_
          refine A_cl (C_region ttOk (n := 5) (by kernel_rfl) (by kernel_rfl) ?_)
          obtain ⟨c16, h1⟩ := asrtE h1
          refine R_all (Ds := [0 ≤ i8 ∧ i8 < ((List.length places6 : Nat) : Int)]) (by kernel_rfl) ⟨c16, trivial⟩ ?_
          refine E_has (l := [(0, (eL e_api_Jump f0)), (1, (eInt .i64 t1)), (6, (eL (eInt .i64) places6)), (7, (.msl 1 lo15 0 (List.length values7))), (8, (eInt .i64 i8)), (9, (eInt .i64 (List.getD places6 (Int.toNat i8) default)))]) (.eq (by kernel_rfl)) ?_
          refine E_done (thenA_normal (?_))
          refine C_seqJ (by kernel_rfl) (fun T H => ∃ values7 : List Int, ∃ p9 : Int, ∃ lo17 : Nat, Has T [(0, (eL e_api_Jump f0)), (1, (eInt .i64 t1)), (6, (eL (eInt .i64) places6)), (7, (.msl 1 lo17 0 (List.length values7))), (8, (eInt .i64 i8)), (9, (eInt .i64 p9))] ∧ Owns ⟨H0, []⟩ H [(lo17, 1, List.map (eInt .i64) values7)] ∧ ref09_Rest_j3 f0 t1 places6 values7 i8 p9 = some out1) ?_ ?_
          · clear hO h1
            rintro T H ⟨values7, p9, lo17, hT, hO, h1⟩
            refine C_has hT ?_
            clear hT
            unfold ref09_Rest_j3 at h1
            refine A_cl (C_region ttOk (n := 7) (by kernel_rfl) (by kernel_rfl) ?_)
            refine R_pure 3 (by kernel_rfl) (Ds := []) (by kernel_rfl) trivial ?_
            obtain ⟨x18, hx19, h1⟩ := bindE h1
            refine R_callO [] 41 [(eL e_api_Jump f0), (eInt .i64 p9)] (eInt .i64 x18) true (by kernel_rfl) (by kernel_rfl) (by kernel_rfl) (fun hb20 => (w_ref09_Value f0 p9 _ hx19)) hO ?_
            intro H hO
            refine R_bsl (xs := [(eInt .i64 x18)]) (k := 1) (by kernel_rfl) (by kernel_rfl) ?_
            obtain ⟨c22, h1⟩ := asrtE h1
            refine R_appOL (e := (eInt .i64)) values7 ([x18]) 0 lo17 1 8 (frozenOf [(eInt .i64 x18)]) (fun lo21 => [(lo21, 1, List.map (eInt .i64) (values7 ++ ([x18])))]) (by kernel_rfl) (by kernel_rfl) hO (by kernel_rfl) (by kernel_rfl) c22 (fun _ => by kernel_rfl) ?_
            intro lo21 H hO
            refine R_all (Ds := []) (by kernel_rfl) trivial ?_
            refine E_has (l := [(0, (eL e_api_Jump f0)), (1, (eInt .i64 t1)), (6, (eL (eInt .i64) places6)), (7, (.msl 1 lo21 0 (List.length (values7 ++ ([x18]))))), (8, (eInt .i64 i8))]) (.eq (by kernel_rfl)) ?_
            refine E_done (blockA_normal (thenA_normal (?_)))
            refine A_cl (C_region ttOk (n := 3) (by kernel_rfl) (by kernel_rfl) ?_)
            refine R_all (Ds := []) (by kernel_rfl) trivial ?_
            refine E_has (l := [(0, (eL e_api_Jump f0)), (1, (eInt .i64 t1)), (6, (eL (eInt .i64) places6)), (7, (.msl 1 lo21 0 (List.length (values7 ++ ([x18]))))), (8, (eInt .i64 (IntKind.i64.wrap (i8 + (1 : Int)))))]) (.eq (by kernel_rfl)) ?_
            exact E_done (thenA_normal (⟨rfl, (values7 ++ ([x18]), IntKind.i64.wrap (i8 + (1 : Int))), (Option.some.inj h1).symm, lo21, .eq (by kernel_rfl), hO⟩))
          · refine C_seq (by kernel_rfl) ?_
            refine A_cl (C_region ttOk (n := 7) (by kernel_rfl) (by kernel_rfl) ?_)
            refine R_all (Ds := []) (by kernel_rfl) trivial ?_
            refine E_has (l := [(0, (eL e_api_Jump f0)), (1, (eInt .i64 t1)), (6, (eL (eInt .i64) places6)), (7, (.msl 1 lo15 0 (List.length values7))), (8, (eInt .i64 i8)), (9, (eInt .i64 (List.getD places6 (Int.toNat i8) default))), (35, (eBool ((decide ((-1 : Int) < t1)) && (decide ((List.getD places6 (Int.toNat i8) default) < t1)))))]) (.eq (by kernel_rfl)) ?_
            refine E_done (thenA_normal (?_))
            refine C_cond (b := (decide ((-1 : Int) < t1)) && (decide ((List.getD places6 (Int.toNat i8) default) < t1))) (by kernel_rfl) (by kernel_rfl) (fun hc23 => ?_) (fun hc23 => ?_)
            · replace h1 := condT hc23 h1
              refine A_cl (C_region ttOk (n := 3) (by kernel_rfl) (by kernel_rfl) ?_)
              refine R_all (Ds := []) (by kernel_rfl) trivial ?_
              refine E_has (l := [(0, (eL e_api_Jump f0)), (1, (eInt .i64 t1)), (6, (eL (eInt .i64) places6)), (7, (.msl 1 lo15 0 (List.length values7))), (8, (eInt .i64 i8)), (9, (eInt .i64 (IntKind.i64.wrap (t1 - (1 : Int)))))]) (.eq (by kernel_rfl)) ?_
              exact E_done (thenA_normal (⟨rfl, values7, IntKind.i64.wrap (t1 - (1 : Int)), lo15, .eq (by kernel_rfl), hO, h1⟩))
            · replace h1 := condF hc23 h1
              refine A_cl (C_skip (by kernel_rfl) ?_)
              refine E_has (l := [(0, (eL e_api_Jump f0)), (1, (eInt .i64 t1)), (6, (eL (eInt .i64) places6)), (7, (.msl 1 lo15 0 (List.length values7))), (8, (eInt .i64 i8)), (9, (eInt .i64 (List.getD places6 (Int.toNat i8) default)))]) (.eq (by kernel_rfl)) ?_
              exact E_done (thenA_normal (⟨rfl, values7, List.getD places6 (Int.toNat i8) default, lo15, .eq (by kernel_rfl), hO, h1⟩))
        · replace h1 := condF hc24 h1
          refine A_cl (C_exit (id := 0) (by kernel_rfl) (by kernel_rfl) ?_)
          refine E_has (l := [(6, (eL (eInt .i64) places6)), (7, (.msl 1 lo15 0 (List.length values7)))]) (.eq (by kernel_rfl)) ?_
          obtain rfl := Option.some.inj h1
          obtain rfl : _ = rr0 := ho0
          replace h0 : ref09_Rest_j1 places6 values7 = some r := h0
          exact E_done (thenA_exit (thenA_exit (blockA_hit (thenA_normal (⟨rfl, places6, values7, lo15, .eq (by kernel_rfl), hO, h0⟩)))))

theorem w_law09_StepCuts (f0 : (List api_Jump)) (t1 : Int) (r : Bool) (h0 : s_law09_StepCuts f0 t1 = some r) : Fine Try.prog 8 [(eL e_api_Jump f0), (eInt .i64 t1)] (eBool r) := by
  intro H0
  refine F_walk Try.func8 (by kernel_rfl) (by kernel_rfl) (by kernel_rfl) ?_
  have hO := Owns.start H0
  unfold s_law09_StepCuts at h0
  refine C_seq (by kernel_rfl) ?_
  refine A_cl (C_region ttOk (n := 1) (by kernel_rfl) (by kernel_rfl) ?_)
  refine R_all (Ds := []) (by kernel_rfl) trivial ?_
  refine E_has (l := [(0, (eL e_api_Jump f0)), (1, (eInt .i64 t1))]) (.eq (by kernel_rfl)) ?_
  refine E_done (thenA_normal (?_))
  refine C_seq (by kernel_rfl) ?_
  refine C_seq (by kernel_rfl) ?_
  refine A_cl (C_region ttOk (n := 3) (by kernel_rfl) (by kernel_rfl) ?_)
  refine R_pure 1 (by kernel_rfl) (Ds := []) (by kernel_rfl) trivial ?_
  obtain ⟨x1, hx2, h0⟩ := bindE h0
  refine R_callO [] 10 [(eL e_api_Jump f0)] (eBool x1) true (by kernel_rfl) (by kernel_rfl) (by kernel_rfl) (fun hb3 => (w_law09_few f0 _ hx2)) hO ?_
  intro H hO
  refine R_all (Ds := []) (by kernel_rfl) trivial ?_
  refine E_has (l := [(0, (eL e_api_Jump f0)), (1, (eInt .i64 t1)), (15, (eBool (!x1)))]) (.eq (by kernel_rfl)) ?_
  refine E_done (thenA_normal (?_))
  refine C_cond (b := !x1) (by kernel_rfl) (by kernel_rfl) (fun hc28 => ?_) (fun hc28 => ?_)
  · replace h0 := condT hc28 h0
    refine C_seq (by kernel_rfl) ?_
    refine A_cl (C_region ttOk (n := 2) (by kernel_rfl) (by kernel_rfl) ?_)
    obtain ⟨x4, hx5, h0⟩ := bindE h0
    refine R_callO [] 11 [] (eBool x4) true (by kernel_rfl) (by kernel_rfl) (by kernel_rfl) (fun hb6 => (w_law09_live  _ hx5)) hO ?_
    intro H hO
    refine R_all (Ds := []) (by kernel_rfl) trivial ?_
    refine E_has (l := [(4, (eBool x4))]) (.eq (by kernel_rfl)) ?_
    refine E_done (thenA_normal (?_))
    refine A_cl (C_ret (by kernel_rfl) ?_)
    refine E_has (l := [(4, (eBool x4))]) (.eq (by kernel_rfl)) ?_
    obtain rfl := Option.some.inj h0
    exact E_done (thenA_ret (Q_ret (x := (eBool x4)) (by kernel_rfl) (SubV.refl _) ⟨rfl, hO.out⟩))
  · replace h0 := condF hc28 h0
    refine A_cl (C_skip (by kernel_rfl) ?_)
    refine E_has (l := [(0, (eL e_api_Jump f0)), (1, (eInt .i64 t1))]) (.eq (by kernel_rfl)) ?_
    refine E_done (thenA_normal (?_))
    refine C_seq (by kernel_rfl) ?_
    refine A_cl (C_region ttOk (n := 8) (by kernel_rfl) (by kernel_rfl) ?_)
    refine R_pure 2 (by kernel_rfl) (Ds := []) (by kernel_rfl) trivial ?_
    obtain ⟨x7, hx8, h0⟩ := bindE h0
    refine R_callO [] 27 [(eL e_api_Jump f0), (eInt .i64 t1)] (.tup [(eL e_api_Jump x7.1), (eInt .i64 x7.2)]) true (by kernel_rfl) (by kernel_rfl) (by kernel_rfl) (fun hb9 => (w_step_Ahead f0 t1 _ hx8)) hO ?_
    intro H hO
    refine R_all (Ds := []) (by kernel_rfl) trivial ?_
    refine E_has (l := [(0, (eL e_api_Jump f0)), (1, (eInt .i64 t1)), (5, (eL e_api_Jump x7.1)), (6, (eInt .i64 x7.2))]) (.eq (by kernel_rfl)) ?_
    refine E_done (thenA_normal (?_))
    refine C_seq (by kernel_rfl) ?_
    refine A_cl (C_region ttOk (n := 8) (by kernel_rfl) (by kernel_rfl) ?_)
    refine R_pure 2 (by kernel_rfl) (Ds := []) (by kernel_rfl) trivial ?_
    obtain ⟨x10, hx11, h0⟩ := bindE h0
    refine R_callO [] 28 [(eL e_api_Jump f0), (eInt .i64 t1)] (.tup [(eL e_api_Jump x10.1), (eInt .i64 x10.2)]) true (by kernel_rfl) (by kernel_rfl) (by kernel_rfl) (fun hb12 => (w_ref09_Ahead f0 t1 _ hx11)) hO ?_
    intro H hO
    refine R_all (Ds := []) (by kernel_rfl) trivial ?_
    refine E_has (l := [(0, (eL e_api_Jump f0)), (1, (eInt .i64 t1)), (5, (eL e_api_Jump x7.1)), (6, (eInt .i64 x7.2)), (7, (eL e_api_Jump x10.1)), (8, (eInt .i64 x10.2))]) (.eq (by kernel_rfl)) ?_
    refine E_done (thenA_normal (?_))
    refine C_seq (by kernel_rfl) ?_
    refine A_cl (C_region ttOk (n := 8) (by kernel_rfl) (by kernel_rfl) ?_)
    refine R_pure 2 (by kernel_rfl) (Ds := []) (by kernel_rfl) trivial ?_
    obtain ⟨x13, hx14, h0⟩ := bindE h0
    refine R_callO [] 29 [(eL e_api_Jump f0), (eInt .i64 t1)] (.tup [(eL e_api_Jump x13.1), (eInt .i64 x13.2)]) true (by kernel_rfl) (by kernel_rfl) (by kernel_rfl) (fun hb15 => (w_step_Rest f0 t1 _ hx14)) hO ?_
    intro H hO
    refine R_all (Ds := []) (by kernel_rfl) trivial ?_
    refine E_has (l := [(0, (eL e_api_Jump f0)), (1, (eInt .i64 t1)), (5, (eL e_api_Jump x7.1)), (6, (eInt .i64 x7.2)), (7, (eL e_api_Jump x10.1)), (8, (eInt .i64 x10.2)), (9, (eL e_api_Jump x13.1)), (10, (eInt .i64 x13.2))]) (.eq (by kernel_rfl)) ?_
    refine E_done (thenA_normal (?_))
    refine C_seq (by kernel_rfl) ?_
    refine A_cl (C_region ttOk (n := 8) (by kernel_rfl) (by kernel_rfl) ?_)
    refine R_pure 2 (by kernel_rfl) (Ds := []) (by kernel_rfl) trivial ?_
    obtain ⟨x16, hx17, h0⟩ := bindE h0
    refine R_callO [] 30 [(eL e_api_Jump f0), (eInt .i64 t1)] (.tup [(eL e_api_Jump x16.1), (eInt .i64 x16.2)]) true (by kernel_rfl) (by kernel_rfl) (by kernel_rfl) (fun hb18 => (w_ref09_Rest f0 t1 _ hx17)) hO ?_
    intro H hO
    refine R_all (Ds := []) (by kernel_rfl) trivial ?_
    refine E_has (l := [(5, (eL e_api_Jump x7.1)), (6, (eInt .i64 x7.2)), (7, (eL e_api_Jump x10.1)), (8, (eInt .i64 x10.2)), (9, (eL e_api_Jump x13.1)), (10, (eInt .i64 x13.2)), (11, (eL e_api_Jump x16.1)), (12, (eInt .i64 x16.2))]) (.eq (by kernel_rfl)) ?_
    refine E_done (thenA_normal (?_))
    refine C_seq (by kernel_rfl) ?_
    refine A_cl (C_region ttOk (n := 22) (by kernel_rfl) (by kernel_rfl) ?_)
    obtain ⟨x19, hx20, h0⟩ := bindE h0
    refine R_callO [] 11 [] (eBool x19) true (by kernel_rfl) (by kernel_rfl) (by kernel_rfl) (fun hb21 => (w_law09_live  _ hx20)) hO ?_
    intro H hO
    refine R_pure 9 (by kernel_rfl) (Ds := []) (by kernel_rfl) trivial ?_
    obtain ⟨x22, hx23, h0⟩ := bindE h0
    refine R_callO [(47, true)] 14 [(eL e_api_Jump x7.1), (eL e_api_Jump x10.1)] (eBool x22) (x19 && (decide (x7.2 = x10.2))) (by kernel_rfl) (by kernel_rfl) (by kernel_rfl) (fun hb24 => (w_ref09_Same x7.1 x10.1 _ (gcallE hx23 hb24))) hO ?_
    intro H hO
    refine R_pure 19 (by kernel_rfl) (Ds := []) (by kernel_rfl) trivial ?_
    obtain ⟨x25, hx26, h0⟩ := bindE h0
    refine R_callO [(57, true)] 14 [(eL e_api_Jump x13.1), (eL e_api_Jump x16.1)] (eBool x25) (((x19 && (decide (x7.2 = x10.2))) && x22) && (decide (x13.2 = x16.2))) (by kernel_rfl) (by kernel_rfl) (by kernel_rfl) (fun hb27 => (w_ref09_Same x13.1 x16.1 _ (gcallE hx26 hb27))) hO ?_
    intro H hO
    refine R_all (Ds := []) (by kernel_rfl) trivial ?_
    refine E_has (l := [(4, (eBool ((((x19 && (decide (x7.2 = x10.2))) && x22) && (decide (x13.2 = x16.2))) && x25)))]) (.eq (by kernel_rfl)) ?_
    refine E_done (thenA_normal (?_))
    refine A_cl (C_ret (by kernel_rfl) ?_)
    refine E_has (l := [(4, (eBool ((((x19 && (decide (x7.2 = x10.2))) && x22) && (decide (x13.2 = x16.2))) && x25)))]) (.eq (by kernel_rfl)) ?_
    obtain rfl := Option.some.inj h0
    exact E_done (Q_ret (x := (eBool ((((x19 && (decide (x7.2 = x10.2))) && x22) && (decide (x13.2 = x16.2))) && x25))) (by kernel_rfl) (SubV.refl _) ⟨rfl, hO.out⟩)

theorem w_law09_StepSides (f0 : (List api_Jump)) (t1 : Int) (p2 : Int) (r : Bool) (h0 : s_law09_StepSides f0 t1 p2 = some r) : Fine Try.prog 9 [(eL e_api_Jump f0), (eInt .i64 t1), (eInt .i64 p2)] (eBool r) := by
  intro H0
  refine F_walk Try.func9 (by kernel_rfl) (by kernel_rfl) (by kernel_rfl) ?_
  have hO := Owns.start H0
  unfold s_law09_StepSides at h0
  refine C_seq (by kernel_rfl) ?_
  refine A_cl (C_region ttOk (n := 1) (by kernel_rfl) (by kernel_rfl) ?_)
  refine R_all (Ds := []) (by kernel_rfl) trivial ?_
  refine E_has (l := [(0, (eL e_api_Jump f0)), (1, (eInt .i64 t1)), (2, (eInt .i64 p2))]) (.eq (by kernel_rfl)) ?_
  refine E_done (thenA_normal (?_))
  refine C_seq (by kernel_rfl) ?_
  refine A_cl (C_region ttOk (n := 8) (by kernel_rfl) (by kernel_rfl) ?_)
  refine R_pure 2 (by kernel_rfl) (Ds := []) (by kernel_rfl) trivial ?_
  obtain ⟨x1, hx2, h0⟩ := bindE h0
  refine R_callO [] 27 [(eL e_api_Jump f0), (eInt .i64 t1)] (.tup [(eL e_api_Jump x1.1), (eInt .i64 x1.2)]) true (by kernel_rfl) (by kernel_rfl) (by kernel_rfl) (fun hb3 => (w_step_Ahead f0 t1 _ hx2)) hO ?_
  intro H hO
  refine R_all (Ds := []) (by kernel_rfl) trivial ?_
  refine E_has (l := [(0, (eL e_api_Jump f0)), (1, (eInt .i64 t1)), (2, (eInt .i64 p2)), (7, (eL e_api_Jump x1.1)), (8, (eInt .i64 x1.2))]) (.eq (by kernel_rfl)) ?_
  refine E_done (thenA_normal (?_))
  refine C_seq (by kernel_rfl) ?_
  refine A_cl (C_region ttOk (n := 8) (by kernel_rfl) (by kernel_rfl) ?_)
  refine R_pure 2 (by kernel_rfl) (Ds := []) (by kernel_rfl) trivial ?_
  obtain ⟨x4, hx5, h0⟩ := bindE h0
  refine R_callO [] 29 [(eL e_api_Jump f0), (eInt .i64 t1)] (.tup [(eL e_api_Jump x4.1), (eInt .i64 x4.2)]) true (by kernel_rfl) (by kernel_rfl) (by kernel_rfl) (fun hb6 => (w_step_Rest f0 t1 _ hx5)) hO ?_
  intro H hO
  refine R_all (Ds := []) (by kernel_rfl) trivial ?_
  refine E_has (l := [(0, (eL e_api_Jump f0)), (1, (eInt .i64 t1)), (2, (eInt .i64 p2)), (7, (eL e_api_Jump x1.1)), (8, (eInt .i64 x1.2)), (9, (eL e_api_Jump x4.1)), (10, (eInt .i64 x4.2))]) (.eq (by kernel_rfl)) ?_
  refine E_done (thenA_normal (?_))
  refine C_seq (by kernel_rfl) ?_
  refine C_seq (by kernel_rfl) ?_
  refine A_cl (C_region ttOk (n := 39) (by kernel_rfl) (by kernel_rfl) ?_)
  refine R_pure 10 (by kernel_rfl) (Ds := []) (by kernel_rfl) trivial ?_
  obtain ⟨x7, hx8, h0⟩ := bindE h0
  refine R_callO [(30, true)] 19 [(eL e_api_Jump x1.1), (eInt .i64 p2)] (eInt .i64 x7) ((decide (x1.2 = (0 : Int))) && (decide (p2 < t1))) (by kernel_rfl) (by kernel_rfl) (by kernel_rfl) (fun hb9 => (w_step_At x1.1 p2 _ (gcallE hx8 hb9))) hO ?_
  intro H hO
  refine R_pure 13 (by kernel_rfl) (Ds := []) (by kernel_rfl) trivial ?_
  obtain ⟨x10, hx11, h0⟩ := bindE h0
  refine R_callO [(30, true)] 19 [(eL e_api_Jump f0), (eInt .i64 p2)] (eInt .i64 x10) ((decide (x1.2 = (0 : Int))) && (decide (p2 < t1))) (by kernel_rfl) (by kernel_rfl) (by kernel_rfl) (fun hb12 => (w_step_At f0 p2 _ (gcallE hx11 hb12))) hO ?_
  intro H hO
  refine R_pure 35 (by kernel_rfl) (Ds := []) (by kernel_rfl) trivial ?_
  obtain ⟨x13, hx14, h0⟩ := bindE h0
  refine R_callO [(55, true), (39, false)] 19 [(eL e_api_Jump x1.1), (eInt .i64 p2)] (eInt .i64 x13) (((((decide (x1.2 = (0 : Int))) && (decide (t1 ≤ p2))) && (decide ((0 : Int) ≤ t1))) && (decide (t1 < (1125899906842624 : Int)))) && (!(((decide (x1.2 = (0 : Int))) && (decide (p2 < t1))) && (!decide (x7 = x10))))) (by kernel_rfl) (by kernel_rfl) (by kernel_rfl) (fun hb15 => (w_step_At x1.1 p2 _ (gcallE hx14 hb15))) hO ?_
  intro H hO
  refine R_all (Ds := []) (by kernel_rfl) trivial ?_
  refine E_has (l := [(0, (eL e_api_Jump f0)), (1, (eInt .i64 t1)), (2, (eInt .i64 p2)), (9, (eL e_api_Jump x4.1)), (10, (eInt .i64 x4.2)), (61, (eBool ((((decide (x1.2 = (0 : Int))) && (decide (p2 < t1))) && (!decide (x7 = x10))) || (((((decide (x1.2 = (0 : Int))) && (decide (t1 ≤ p2))) && (decide ((0 : Int) ≤ t1))) && (decide (t1 < (1125899906842624 : Int)))) && (!decide (x13 = (0 : Int)))))))]) (.eq (by kernel_rfl)) ?_
  refine E_done (thenA_normal (?_))
  refine C_cond (b := (((decide (x1.2 = (0 : Int))) && (decide (p2 < t1))) && (!decide (x7 = x10))) || (((((decide (x1.2 = (0 : Int))) && (decide (t1 ≤ p2))) && (decide ((0 : Int) ≤ t1))) && (decide (t1 < (1125899906842624 : Int)))) && (!decide (x13 = (0 : Int))))) (by kernel_rfl) (by kernel_rfl) (fun hc33 => ?_) (fun hc33 => ?_)
  · replace h0 := condT hc33 h0
    refine C_seq (by kernel_rfl) ?_
    refine A_cl (C_region ttOk (n := 1) (by kernel_rfl) (by kernel_rfl) ?_)
    refine R_all (Ds := []) (by kernel_rfl) trivial ?_
    refine E_has (l := [(6, (eBool false))]) (.eq (by kernel_rfl)) ?_
    refine E_done (thenA_normal (?_))
    refine A_cl (C_ret (by kernel_rfl) ?_)
    refine E_has (l := [(6, (eBool false))]) (.eq (by kernel_rfl)) ?_
    obtain rfl := Option.some.inj h0
    exact E_done (thenA_ret (Q_ret (x := (eBool false)) (by kernel_rfl) (SubV.refl _) ⟨rfl, hO.out⟩))
  · replace h0 := condF hc33 h0
    refine A_cl (C_skip (by kernel_rfl) ?_)
    refine E_has (l := [(0, (eL e_api_Jump f0)), (1, (eInt .i64 t1)), (2, (eInt .i64 p2)), (9, (eL e_api_Jump x4.1)), (10, (eInt .i64 x4.2))]) (.eq (by kernel_rfl)) ?_
    refine E_done (thenA_normal (?_))
    refine C_seqJ (by kernel_rfl) (fun T H => Has T [] ∧ Owns ⟨H0, []⟩ H [] ∧ law09_StepSides_j1  = some r) ?_ ?_
    · clear hO h0
      rintro T H ⟨hT, hO, h0⟩
      refine C_has hT ?_
      clear hT
      unfold law09_StepSides_j1 at h0
      refine C_seq (by kernel_rfl) ?_
      refine A_cl (C_region ttOk (n := 2) (by kernel_rfl) (by kernel_rfl) ?_)
      obtain ⟨x16, hx17, h0⟩ := bindE h0
      refine R_callO [] 11 [] (eBool x16) true (by kernel_rfl) (by kernel_rfl) (by kernel_rfl) (fun hb18 => (w_law09_live  _ hx17)) hO ?_
      intro H hO
      refine R_all (Ds := []) (by kernel_rfl) trivial ?_
      refine E_has (l := [(6, (eBool x16))]) (.eq (by kernel_rfl)) ?_
      refine E_done (thenA_normal (?_))
      refine A_cl (C_ret (by kernel_rfl) ?_)
      refine E_has (l := [(6, (eBool x16))]) (.eq (by kernel_rfl)) ?_
      obtain rfl := Option.some.inj h0
      exact E_done (Q_ret (x := (eBool x16)) (by kernel_rfl) (SubV.refl _) ⟨rfl, hO.out⟩)
    · refine C_seq (by kernel_rfl) ?_
      refine A_cl (C_region ttOk (n := 10) (by kernel_rfl) (by kernel_rfl) ?_)
      refine R_all (Ds := []) (by kernel_rfl) trivial ?_
      refine E_has (l := [(0, (eL e_api_Jump f0)), (1, (eInt .i64 t1)), (2, (eInt .i64 p2)), (9, (eL e_api_Jump x4.1)), (71, (eBool (((decide (x4.2 = (0 : Int))) && (decide ((0 : Int) ≤ t1))) && (decide (t1 < (1125899906842624 : Int))))))]) (.eq (by kernel_rfl)) ?_
      refine E_done (thenA_normal (?_))
      refine C_cond (b := ((decide (x4.2 = (0 : Int))) && (decide ((0 : Int) ≤ t1))) && (decide (t1 < (1125899906842624 : Int)))) (by kernel_rfl) (by kernel_rfl) (fun hc32 => ?_) (fun hc32 => ?_)
      · replace h0 := condT hc32 h0
        refine C_seq (by kernel_rfl) ?_
        refine A_cl (C_region ttOk (n := 31) (by kernel_rfl) (by kernel_rfl) ?_)
        refine R_pure 6 (by kernel_rfl) (Ds := []) (by kernel_rfl) trivial ?_
        obtain ⟨x19, hx20, h0⟩ := bindE h0
        refine R_callO [(75, true)] 19 [(eL e_api_Jump x4.1), (eInt .i64 p2)] (eInt .i64 x19) (decide (t1 ≤ p2)) (by kernel_rfl) (by kernel_rfl) (by kernel_rfl) (fun hb21 => (w_step_At x4.1 p2 _ (gcallE hx20 hb21))) hO ?_
        intro H hO
        refine R_pure 9 (by kernel_rfl) (Ds := []) (by kernel_rfl) trivial ?_
        obtain ⟨x22, hx23, h0⟩ := bindE h0
        refine R_callO [(75, true)] 19 [(eL e_api_Jump f0), (eInt .i64 p2)] (eInt .i64 x22) (decide (t1 ≤ p2)) (by kernel_rfl) (by kernel_rfl) (by kernel_rfl) (fun hb24 => (w_step_At f0 p2 _ (gcallE hx23 hb24))) hO ?_
        intro H hO
        refine R_pure 23 (by kernel_rfl) (Ds := []) (by kernel_rfl) trivial ?_
        obtain ⟨x25, hx26, h0⟩ := bindE h0
        refine R_callO [(92, true), (84, false)] 19 [(eL e_api_Jump x4.1), (eInt .i64 p2)] (eInt .i64 x25) (((decide (p2 < t1)) && (decide ((-1 : Int) ≤ p2))) && (!((decide (t1 ≤ p2)) && (!decide (x19 = x22))))) (by kernel_rfl) (by kernel_rfl) (by kernel_rfl) (fun hb27 => (w_step_At x4.1 p2 _ (gcallE hx26 hb27))) hO ?_
        intro H hO
        refine R_pure 27 (by kernel_rfl) (Ds := []) (by kernel_rfl) trivial ?_
        obtain ⟨x28, hx29, h0⟩ := bindE h0
        refine R_callO [(92, true), (84, false)] 19 [(eL e_api_Jump f0), (eInt .i64 (IntKind.i64.wrap (t1 - (1 : Int))))] (eInt .i64 x28) (((decide (p2 < t1)) && (decide ((-1 : Int) ≤ p2))) && (!((decide (t1 ≤ p2)) && (!decide (x19 = x22))))) (by kernel_rfl) (by kernel_rfl) (by kernel_rfl) (fun hb30 => (w_step_At f0 (IntKind.i64.wrap (t1 - (1 : Int))) _ (gcallE hx29 hb30))) hO ?_
        intro H hO
        refine R_all (Ds := []) (by kernel_rfl) trivial ?_
        refine E_has (l := [(102, (eBool (((decide (t1 ≤ p2)) && (!decide (x19 = x22))) || (((decide (p2 < t1)) && (decide ((-1 : Int) ≤ p2))) && (!decide (x25 = x28))))))]) (.eq (by kernel_rfl)) ?_
        refine E_done (thenA_normal (?_))
        refine C_cond (b := ((decide (t1 ≤ p2)) && (!decide (x19 = x22))) || (((decide (p2 < t1)) && (decide ((-1 : Int) ≤ p2))) && (!decide (x25 = x28)))) (by kernel_rfl) (by kernel_rfl) (fun hc31 => ?_) (fun hc31 => ?_)
        · replace h0 := condT hc31 h0
          refine C_seq (by kernel_rfl) ?_
          refine A_cl (C_region ttOk (n := 1) (by kernel_rfl) (by kernel_rfl) ?_)
          refine R_all (Ds := []) (by kernel_rfl) trivial ?_
          refine E_has (l := [(6, (eBool false))]) (.eq (by kernel_rfl)) ?_
          refine E_done (thenA_normal (?_))
          refine A_cl (C_ret (by kernel_rfl) ?_)
          refine E_has (l := [(6, (eBool false))]) (.eq (by kernel_rfl)) ?_
          obtain rfl := Option.some.inj h0
          exact E_done (thenA_ret (Q_ret (x := (eBool false)) (by kernel_rfl) (SubV.refl _) ⟨rfl, hO.out⟩))
        · replace h0 := condF hc31 h0
          refine A_cl (C_skip (by kernel_rfl) ?_)
          refine E_has (l := []) (.eq (by kernel_rfl)) ?_
          exact E_done (thenA_normal (⟨rfl, .eq (by kernel_rfl), hO, h0⟩))
      · replace h0 := condF hc32 h0
        refine A_cl (C_skip (by kernel_rfl) ?_)
        refine E_has (l := []) (.eq (by kernel_rfl)) ?_
        exact E_done (thenA_normal (⟨rfl, .eq (by kernel_rfl), hO, h0⟩))

end Go.Abs
