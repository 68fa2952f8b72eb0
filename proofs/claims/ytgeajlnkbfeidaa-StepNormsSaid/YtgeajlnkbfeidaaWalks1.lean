/- The walks of the given functions: printed by gen.py. -/
import Derived.Test.YtgeajlnkbfeidaaDefs
import Derived.Test.YtgeajlnkbfeidaaProg
import Derived.KernelRfl
namespace Go.Abs
open Go Go.RowKit Go.Proofs

noncomputable def tt : TT := ⟨tyOf Try.prog, eqOk Try.prog⟩
theorem ttOk : TTok Try.prog tt := ⟨fun _ _ h => h, fun _ h => h⟩

theorem w_law09_few (f0 : (List api_Jump)) (r : Bool) (h0 : s_law09_few f0 = some r) : Fine Try.prog 10 [(eL e_api_Jump f0)] (eBool r) := by
  intro H0
  refine F_walk Try.func10 (by kernel_rfl) (by kernel_rfl) (by kernel_rfl) ?_
  have hO := Owns.start H0
  unfold s_law09_few at h0
  refine C_seq (by kernel_rfl) ?_
  refine A_cl (C_region ttOk (n := 1) (by kernel_rfl) (by kernel_rfl) ?_)
  refine R_all (Ds := []) (by kernel_rfl) trivial ?_
  refine E_has (l := [(0, (eL e_api_Jump f0))]) (.eq (by kernel_rfl)) ?_
  refine E_done (thenA_normal (?_))
  refine C_seq (by kernel_rfl) ?_
  refine A_cl (C_region ttOk (n := 4) (by kernel_rfl) (by kernel_rfl) ?_)
  refine R_all (Ds := []) (by kernel_rfl) trivial ?_
  refine E_has (l := [(2, (eBool (decide (((List.length f0 : Nat) : Int) ≤ (60 : Int)))))]) (.eq (by kernel_rfl)) ?_
  refine E_done (thenA_normal (?_))
  refine A_cl (C_ret (by kernel_rfl) ?_)
  refine E_has (l := [(2, (eBool (decide (((List.length f0 : Nat) : Int) ≤ (60 : Int)))))]) (.eq (by kernel_rfl)) ?_
  obtain rfl := Option.some.inj h0
  exact E_done (Q_ret (x := (eBool (decide (((List.length f0 : Nat) : Int) ≤ (60 : Int))))) (by kernel_rfl) (SubV.refl _) ⟨rfl, hO.out⟩)

theorem w_slices_IndexFunc_api_Jump_api_Jump (s0 : (List api_Jump)) (f1_f : Nat) (f1_a f1_c : List V) (f1 : api_Jump → Option Bool) (f1_h : ∀ a0 r, f1 a0 = some r → Fine Try.prog f1_f (f1_a ++ [(e_api_Jump a0)] ++ f1_c) (eBool r)) (r : Int) (h0 : s_slices_IndexFunc_api_Jump_api_Jump s0 f1 = some r) : Fine Try.prog 49 [(eL e_api_Jump s0), (.fn (.func f1_f) f1_a f1_c)] (eInt .i64 r) := by
  intro H0
  refine F_walk Try.func49 (by kernel_rfl) (by kernel_rfl) (by kernel_rfl) ?_
  have hO := Owns.start H0
  unfold s_slices_IndexFunc_api_Jump_api_Jump at h0
  refine C_seq (by kernel_rfl) ?_
  refine A_cl (C_region ttOk (n := 1) (by kernel_rfl) (by kernel_rfl) ?_)
  refine R_all (Ds := []) (by kernel_rfl) trivial ?_
  refine E_has (l := [(0, (eL e_api_Jump s0)), (1, (.fn (.func f1_f) f1_a f1_c))]) (.eq (by kernel_rfl)) ?_
  refine E_done (thenA_normal (?_))
  refine C_seqJ (by kernel_rfl) (fun T H => Has T [] ∧ Owns ⟨H0, []⟩ H [] ∧ slices_IndexFunc_api_Jump_api_Jump_j1 f1  = some r) ?_ ?_
  · clear hO h0
    rintro T H ⟨hT, hO, h0⟩
    refine C_has hT ?_
    clear hT
    unfold slices_IndexFunc_api_Jump_api_Jump_j1 at h0
    refine C_seq (by kernel_rfl) ?_
    refine A_cl (C_region ttOk (n := 1) (by kernel_rfl) (by kernel_rfl) ?_)
    refine R_all (Ds := []) (by kernel_rfl) trivial ?_
    refine E_has (l := [(4, (eInt .i64 (-1 : Int)))]) (.eq (by kernel_rfl)) ?_
    refine E_done (thenA_normal (?_))
    refine A_cl (C_ret (by kernel_rfl) ?_)
    refine E_has (l := [(4, (eInt .i64 (-1 : Int)))]) (.eq (by kernel_rfl)) ?_
    obtain rfl := Option.some.inj h0
    exact E_done (Q_ret (x := (eInt .i64 (-1 : Int))) (by kernel_rfl) (SubV.refl _) ⟨rfl, hO.out⟩)
  · refine C_seq (by kernel_rfl) ?_
    refine A_cl (C_region ttOk (n := 3) (by kernel_rfl) (by kernel_rfl) ?_)
    refine R_all (Ds := []) (by kernel_rfl) trivial ?_
    refine E_has (l := [(0, (eL e_api_Jump s0)), (1, (.fn (.func f1_f) f1_a f1_c)), (7, (eInt .i64 ((List.length s0 : Nat) : Int))), (8, (eInt .i64 (0 : Int)))]) (.eq (by kernel_rfl)) ?_
    refine E_done (thenA_normal (?_))
    refine C_block (id := 0) (by kernel_rfl) (by kernel_rfl) ?_
    refine C_has (l := [(0, (eL e_api_Jump s0)), (1, (.fn (.func f1_f) f1_a f1_c)), (7, (eInt .i64 ((List.length s0 : Nat) : Int))), (8, (eInt .i64 (0 : Int)))]) (.eq (by kernel_rfl)) ?_
    refine C_cut (fun T H => ∃ t7 : Int, ∃ t8 : Int, Has T [(0, (eL e_api_Jump s0)), (1, (.fn (.func f1_f) f1_a f1_c)), (7, (eInt .i64 t7)), (8, (eInt .i64 t8))] ∧ Owns ⟨H0, []⟩ H [] ∧ slices_IndexFunc_api_Jump_api_Jump_h2 f1 s0 t7 t8 = some r) ?_ ⟨((List.length s0 : Nat) : Int), (0 : Int), .eq (by kernel_rfl), hO, h0⟩
    clear hO h0
    rintro T H ⟨t7, t8, hT, hO, h0⟩
    refine C_has hT ?_
    clear hT
    unfold slices_IndexFunc_api_Jump_api_Jump_h2 at h0
    obtain ⟨rr0, hl0, h0⟩ := bindE h0
    refine C_loopS (by kernel_rfl) (fun (s : Int) T H => Has T [(0, (eL e_api_Jump s0)), (1, (.fn (.func f1_f) f1_a f1_c)), (7, (eInt .i64 t7)), (8, (eInt .i64 s))] ∧ Owns ⟨H0, []⟩ H []) hl0 ⟨.eq (by kernel_rfl), hO⟩ ?_
    clear hO
    rintro k0 s out1 T H ⟨hT, hO⟩ h1 ho0
    obtain ⟨t8, rfl⟩ : ∃ x, x = s := ⟨_, rfl⟩
    replace h1 : slices_IndexFunc_api_Jump_api_Jump_l2 f1 s0 t7 t8 = some out1 := h1
    refine C_has (l := [(0, (eL e_api_Jump s0)), (1, (.fn (.func f1_f) f1_a f1_c)), (7, (eInt .i64 t7)), (8, (eInt .i64 t8))]) hT ?_
    clear hT
    unfold slices_IndexFunc_api_Jump_api_Jump_l2 at h1
    refine C_seq (by kernel_rfl) ?_
    refine A_cl (C_region ttOk (n := 1) (by kernel_rfl) (by kernel_rfl) ?_)
    refine R_all (Ds := []) (by kernel_rfl) trivial ?_
    refine E_has (l := [(0, (eL e_api_Jump s0)), (1, (.fn (.func f1_f) f1_a f1_c)), (7, (eInt .i64 t7)), (8, (eInt .i64 t8)), (9, (eBool (decide (t8 < t7))))]) (.eq (by kernel_rfl)) ?_
    refine E_done (thenA_normal (?_))
    refine C_seq (by kernel_rfl) ?_
    refine C_cond (b := decide (t8 < t7)) (by kernel_rfl) (by kernel_rfl) (fun hc6 => ?_) (fun hc6 => ?_)
    · replace h1 := condT hc6 h1
      refine A_cl (C_skip (by kernel_rfl) ?_)
      refine E_has (l := [(0, (eL e_api_Jump s0)), (1, (.fn (.func f1_f) f1_a f1_c)), (7, (eInt .i64 t7)), (8, (eInt .i64 t8))]) (.eq (by kernel_rfl)) ?_
      refine E_done (thenA_normal (?_))
      refine C_seq (by kernel_rfl) ?_
      refine C_block (id := 1) (by kernel_rfl) (by kernel_rfl) ?_
      refine C_seq (by kernel_rfl) ?_
      refine A_cl (C_region ttOk (n := 2) (by kernel_rfl) (by kernel_rfl) ?_)
      refine R_all (Ds := []) (by kernel_rfl) trivial ?_
      refine E_has (l := [(0, (eL e_api_Jump s0)), (1, (.fn (.func f1_f) f1_a f1_c)), (5, (eInt .i64 t8)), (7, (eInt .i64 t7)), (8, (eInt .i64 t8))]) (.eq (by kernel_rfl)) ?_
      refine E_done (thenA_normal (?_))
      refine C_seq (by kernel_rfl) ?_
      refine A_cl (C_region ttOk (n := 6) (by kernel_rfl) (by kernel_rfl) ?_)
      obtain ⟨c1, h1⟩ := asrtE h1
      refine R_pure 5 (by kernel_rfl) (Ds := [0 ≤ t8 ∧ t8 < ((List.length s0 : Nat) : Int)]) (by kernel_rfl) ⟨c1, trivial⟩ ?_
      obtain ⟨x2, hx3, h1⟩ := bindE h1
      refine R_callO [] f1_f (f1_a ++ [(e_api_Jump (List.getD s0 (Int.toNat t8) default))] ++ f1_c) (eBool x2) true (by kernel_rfl) (by kernel_rfl) (by kernel_rfl) (fun hb4 => (f1_h (List.getD s0 (Int.toNat t8) default) _ hx3)) hO ?_
      intro H hO
      refine R_end (by kernel_rfl) ?_
      refine E_has (l := [(0, (eL e_api_Jump s0)), (1, (.fn (.func f1_f) f1_a f1_c)), (5, (eInt .i64 t8)), (7, (eInt .i64 t7)), (8, (eInt .i64 t8)), (16, (eBool x2))]) (.eq (by kernel_rfl)) ?_
      refine E_done (thenA_normal (?_))
      refine C_cond (b := x2) (by kernel_rfl) (by kernel_rfl) (fun hc5 => ?_) (fun hc5 => ?_)
      · replace h1 := condT hc5 h1
        refine C_seq (by kernel_rfl) ?_
        refine A_cl (C_region ttOk (n := 2) (by kernel_rfl) (by kernel_rfl) ?_)
        refine R_all (Ds := []) (by kernel_rfl) trivial ?_
        refine E_has (l := [(4, (eInt .i64 t8))]) (.eq (by kernel_rfl)) ?_
        refine E_done (thenA_normal (?_))
        refine A_cl (C_ret (by kernel_rfl) ?_)
        refine E_has (l := [(4, (eInt .i64 t8))]) (.eq (by kernel_rfl)) ?_
        obtain rfl := Option.some.inj h1
        obtain rfl : _ = rr0 := ho0
        replace h0 : some t8 = some r := h0
        obtain rfl := Option.some.inj h0
        exact E_done (blockA_ret (thenA_ret (thenA_ret (blockA_ret (thenA_ret (Q_ret (x := (eInt .i64 t8)) (by kernel_rfl) (SubV.refl _) ⟨rfl, hO.out⟩))))))
      · replace h1 := condF hc5 h1
        refine A_cl (C_skip (by kernel_rfl) ?_)
        refine E_has (l := [(0, (eL e_api_Jump s0)), (1, (.fn (.func f1_f) f1_a f1_c)), (7, (eInt .i64 t7)), (8, (eInt .i64 t8))]) (.eq (by kernel_rfl)) ?_
        refine E_done (blockA_normal (thenA_normal (?_)))
        refine A_cl (C_region ttOk (n := 2) (by kernel_rfl) (by kernel_rfl) ?_)
        refine R_all (Ds := []) (by kernel_rfl) trivial ?_
        refine E_has (l := [(0, (eL e_api_Jump s0)), (1, (.fn (.func f1_f) f1_a f1_c)), (7, (eInt .i64 t7)), (8, (eInt .i64 (IntKind.i64.wrap (t8 + (1 : Int)))))]) (.eq (by kernel_rfl)) ?_
        exact E_done (thenA_normal (⟨rfl, IntKind.i64.wrap (t8 + (1 : Int)), (Option.some.inj h1).symm, .eq (by kernel_rfl), hO⟩))
    · replace h1 := condF hc6 h1
      refine A_cl (C_exit (id := 0) (by kernel_rfl) (by kernel_rfl) ?_)
      refine E_has (l := []) (.eq (by kernel_rfl)) ?_
      obtain rfl := Option.some.inj h1
      obtain rfl : _ = rr0 := ho0
      replace h0 : slices_IndexFunc_api_Jump_api_Jump_j1 f1  = some r := h0
      exact E_done (thenA_exit (thenA_exit (blockA_hit (thenA_normal (⟨rfl, .eq (by kernel_rfl), hO, h0⟩)))))

theorem w_slices_ContainsFunc_api_Jump_api_Jump (s0 : (List api_Jump)) (f1_f : Nat) (f1_a f1_c : List V) (f1 : api_Jump → Option Bool) (f1_h : ∀ a0 r, f1 a0 = some r → Fine Try.prog f1_f (f1_a ++ [(e_api_Jump a0)] ++ f1_c) (eBool r)) (r : Bool) (h0 : s_slices_ContainsFunc_api_Jump_api_Jump s0 f1 = some r) : Fine Try.prog 31 [(eL e_api_Jump s0), (.fn (.func f1_f) f1_a f1_c)] (eBool r) := by
  intro H0
  refine F_walk Try.func31 (by kernel_rfl) (by kernel_rfl) (by kernel_rfl) ?_
  have hO := Owns.start H0
  unfold s_slices_ContainsFunc_api_Jump_api_Jump at h0
  refine C_seq (by kernel_rfl) ?_
  refine A_cl (C_region ttOk (n := 1) (by kernel_rfl) (by kernel_rfl) ?_)
  refine R_all (Ds := []) (by kernel_rfl) trivial ?_
  refine E_has (l := [(0, (eL e_api_Jump s0)), (1, (.fn (.func f1_f) f1_a f1_c))]) (.eq (by kernel_rfl)) ?_
  refine E_done (thenA_normal (?_))
  refine C_seq (by kernel_rfl) ?_
  refine A_cl (C_region ttOk (n := 5) (by kernel_rfl) (by kernel_rfl) ?_)
  refine R_pure 2 (by kernel_rfl) (Ds := []) (by kernel_rfl) trivial ?_
  obtain ⟨x1, hx2, h0⟩ := bindE h0
  refine R_callO [] 49 [(eL e_api_Jump s0), (.fn (.func f1_f) f1_a f1_c)] (eInt .i64 x1) true (by kernel_rfl) (by kernel_rfl) (by kernel_rfl) (fun hb3 => (w_slices_IndexFunc_api_Jump_api_Jump s0 f1_f f1_a f1_c f1 f1_h _ hx2)) hO ?_
  intro H hO
  refine R_all (Ds := []) (by kernel_rfl) trivial ?_
  refine E_has (l := [(4, (eBool (decide ((0 : Int) ≤ x1))))]) (.eq (by kernel_rfl)) ?_
  refine E_done (thenA_normal (?_))
  refine A_cl (C_ret (by kernel_rfl) ?_)
  refine E_has (l := [(4, (eBool (decide ((0 : Int) ≤ x1))))]) (.eq (by kernel_rfl)) ?_
  obtain rfl := Option.some.inj h0
  exact E_done (Q_ret (x := (eBool (decide ((0 : Int) ≤ x1)))) (by kernel_rfl) (SubV.refl _) ⟨rfl, hO.out⟩)

theorem w_step_fair (n0 : Int) (r : Bool) (h0 : s_step_fair n0 = some r) : Fine Try.prog 33 [(eInt .i64 n0)] (eBool r) := by
  intro H0
  refine F_walk Try.func33 (by kernel_rfl) (by kernel_rfl) (by kernel_rfl) ?_
  have hO := Owns.start H0
  unfold s_step_fair at h0
  refine C_seq (by kernel_rfl) ?_
  refine A_cl (C_region ttOk (n := 1) (by kernel_rfl) (by kernel_rfl) ?_)
  refine R_all (Ds := []) (by kernel_rfl) trivial ?_
  refine E_has (l := [(0, (eInt .i64 n0))]) (.eq (by kernel_rfl)) ?_
  refine E_done (thenA_normal (?_))
  refine C_seq (by kernel_rfl) ?_
  refine A_cl (C_region ttOk (n := 7) (by kernel_rfl) (by kernel_rfl) ?_)
  refine R_all (Ds := []) (by kernel_rfl) trivial ?_
  refine E_has (l := [(2, (eBool ((decide (n0 ≤ (1048576 : Int))) && (decide ((-1048576 : Int) ≤ n0)))))]) (.eq (by kernel_rfl)) ?_
  refine E_done (thenA_normal (?_))
  refine A_cl (C_ret (by kernel_rfl) ?_)
  refine E_has (l := [(2, (eBool ((decide (n0 ≤ (1048576 : Int))) && (decide ((-1048576 : Int) ≤ n0)))))]) (.eq (by kernel_rfl)) ?_
  obtain rfl := Option.some.inj h0
  exact E_done (Q_ret (x := (eBool ((decide (n0 ≤ (1048576 : Int))) && (decide ((-1048576 : Int) ≤ n0))))) (by kernel_rfl) (SubV.refl _) ⟨rfl, hO.out⟩)

theorem w_step_Norm_1 (j0 : api_Jump) (r : Bool) (h0 : s_step_Norm_1 j0 = some r) : Fine Try.prog 32 [(e_api_Jump j0)] (eBool r) := by
  intro H0
  refine F_walk Try.func32 (by kernel_rfl) (by kernel_rfl) (by kernel_rfl) ?_
  have hO := Owns.start H0
  unfold s_step_Norm_1 at h0
  refine C_seq (by kernel_rfl) ?_
  refine A_cl (C_region ttOk (n := 2) (by kernel_rfl) (by kernel_rfl) ?_)
  refine R_allocO 2 (e_api_Jump j0) (by kernel_rfl) (by kernel_rfl) hO ?_
  intro lo1 H hO
  refine R_all (Ds := []) (by kernel_rfl) trivial ?_
  refine E_has (l := [(1, (.lp lo1 0 0))]) (.eq (by kernel_rfl)) ?_
  refine E_done (thenA_normal (?_))
  refine C_seq (by kernel_rfl) ?_
  refine A_cl (C_region ttOk (n := 5) (by kernel_rfl) (by kernel_rfl) ?_)
  refine R_pure 1 (by kernel_rfl) (Ds := []) (by kernel_rfl) trivial ?_
  refine R_loadO [] 0 lo1 2 0 (e_api_Jump j0) (eInt .i64 j0.Net) [(e_api_Jump j0)] (by kernel_rfl) (by kernel_rfl) hO (by kernel_rfl) true (by kernel_rfl) (fun _ => rfl) ?_
  obtain ⟨x2, hx3, h0⟩ := bindE h0
  refine R_callO [] 33 [(eInt .i64 j0.Net)] (eBool x2) true (by kernel_rfl) (by kernel_rfl) (by kernel_rfl) (fun hb4 => (w_step_fair j0.Net _ hx3)) hO ?_
  intro H hO
  refine R_all (Ds := []) (by kernel_rfl) trivial ?_
  refine E_has (l := [(2, (eBool (!x2)))]) (.eq (by kernel_rfl)) ?_
  replace hO := hO.pick (L' := []) [] (by decide) (by kernel_rfl)
  refine E_done (thenA_normal (?_))
  refine A_cl (C_ret (by kernel_rfl) ?_)
  refine E_has (l := [(2, (eBool (!x2)))]) (.eq (by kernel_rfl)) ?_
  obtain rfl := Option.some.inj h0
  exact E_done (Q_ret (x := (eBool (!x2))) (by kernel_rfl) (SubV.refl _) ⟨rfl, hO.out⟩)

theorem w_step_Norm_2 (j0 : api_Jump) (r : Bool) (h0 : s_step_Norm_2 j0 = some r) : Fine Try.prog 34 [(e_api_Jump j0)] (eBool r) := by
  intro H0
  refine F_walk Try.func34 (by kernel_rfl) (by kernel_rfl) (by kernel_rfl) ?_
  have hO := Owns.start H0
  unfold s_step_Norm_2 at h0
  refine C_seq (by kernel_rfl) ?_
  refine A_cl (C_region ttOk (n := 2) (by kernel_rfl) (by kernel_rfl) ?_)
  refine R_allocO 2 (e_api_Jump j0) (by kernel_rfl) (by kernel_rfl) hO ?_
  intro lo1 H hO
  refine R_all (Ds := []) (by kernel_rfl) trivial ?_
  refine E_has (l := [(1, (.lp lo1 0 0))]) (.eq (by kernel_rfl)) ?_
  refine E_done (thenA_normal (?_))
  refine C_seq (by kernel_rfl) ?_
  refine A_cl (C_region ttOk (n := 9) (by kernel_rfl) (by kernel_rfl) ?_)
  refine R_pure 1 (by kernel_rfl) (Ds := []) (by kernel_rfl) trivial ?_
  refine R_loadO [] 0 lo1 2 0 (e_api_Jump j0) (eInt .i64 j0.At) [(e_api_Jump j0)] (by kernel_rfl) (by kernel_rfl) hO (by kernel_rfl) true (by kernel_rfl) (fun _ => rfl) ?_
  refine R_pure 5 (by kernel_rfl) (Ds := []) (by kernel_rfl) trivial ?_
  refine R_loadO [(6, false)] 0 lo1 2 0 (e_api_Jump j0) (eInt .i64 j0.At) [(e_api_Jump j0)] (by kernel_rfl) (by kernel_rfl) hO (by kernel_rfl) (!(decide (j0.At < (-1 : Int)))) (by kernel_rfl) (fun hb2 => rfl) ?_
  refine R_all (Ds := []) (by kernel_rfl) trivial ?_
  refine E_has (l := [(2, (eBool ((decide (j0.At < (-1 : Int))) || (decide ((1125899906842624 : Int) < j0.At)))))]) (.eq (by kernel_rfl)) ?_
  replace hO := hO.pick (L' := []) [] (by decide) (by kernel_rfl)
  refine E_done (thenA_normal (?_))
  refine A_cl (C_ret (by kernel_rfl) ?_)
  refine E_has (l := [(2, (eBool ((decide (j0.At < (-1 : Int))) || (decide ((1125899906842624 : Int) < j0.At)))))]) (.eq (by kernel_rfl)) ?_
  obtain rfl := Option.some.inj h0
  exact E_done (Q_ret (x := (eBool ((decide (j0.At < (-1 : Int))) || (decide ((1125899906842624 : Int) < j0.At))))) (by kernel_rfl) (SubV.refl _) ⟨rfl, hO.out⟩)

theorem w_slices_Clone_api_Jump_api_Jump (s0 : (List api_Jump)) (r : (List api_Jump)) (h0 : s_slices_Clone_api_Jump_api_Jump s0 = some r) : FineO Try.prog 35 [(eL e_api_Jump s0)] (fun lo => (.msl 2 lo 0 (List.length r))) 2 (List.map e_api_Jump r) := by
  intro H0
  refine F_walk Try.func35 (by kernel_rfl) (by kernel_rfl) (by kernel_rfl) ?_
  have hO := Owns.start H0
  unfold s_slices_Clone_api_Jump_api_Jump at h0
  refine C_seq (by kernel_rfl) ?_
  refine A_cl (C_region ttOk (n := 1) (by kernel_rfl) (by kernel_rfl) ?_)
  refine R_all (Ds := []) (by kernel_rfl) trivial ?_
  refine E_has (l := [(0, (eL e_api_Jump s0))]) (.eq (by kernel_rfl)) ?_
  refine E_done (thenA_normal (?_))
  refine C_seq (by kernel_rfl) ?_
  refine C_seq (by kernel_rfl) ?_
  refine A_cl (C_region ttOk (n := 2) (by kernel_rfl) (by kernel_rfl) ?_)
  refine R_pure 1 (by kernel_rfl) (Ds := []) (by kernel_rfl) trivial ?_
  refine R_nil false (List.length s0) (fun i => e_api_Jump (List.getD s0 i default)) (by kernel_rfl) (by kernel_rfl) ?_
  intro b1 hn2
  refine R_end (by kernel_rfl) ?_
  refine E_has (l := [(0, (eL e_api_Jump s0)), (4, (eBool b1))]) (.eq (by kernel_rfl)) ?_
  refine E_done (thenA_normal (?_))
  refine C_cond (b := b1) (by kernel_rfl) (by kernel_rfl) (fun hc7 => ?_) (fun hc7 => ?_)
  · replace h0 : some ([] : List api_Jump) = some r := by
      have hl := List.eq_nil_of_length_eq_zero (hn2 hc7)
      rw [hl] at h0
      exact (asrtE h0).2
    refine C_seq (by kernel_rfl) ?_
    refine A_cl (C_region ttOk (n := 1) (by kernel_rfl) (by kernel_rfl) ?_)
    refine R_all (Ds := []) (by kernel_rfl) trivial ?_
    refine E_has (l := [(2, (.sl true 0 (fun _ => .bad)))]) (.eq (by kernel_rfl)) ?_
    refine E_done (thenA_normal (?_))
    refine A_cl (C_ret (by kernel_rfl) ?_)
    refine E_has (l := [(2, (.sl true 0 (fun _ => .bad)))]) (.eq (by kernel_rfl)) ?_
    refine E_ownO (el := (fun _ => .bad)) 0 2 2 hO (by kernel_rfl) ?_
    intro lo3 H4 hO
    obtain rfl := Option.some.inj h0
    exact E_done (thenA_ret (Q_ret (x := (.msl 2 lo3 0 (List.length ([] : List api_Jump)))) (by kernel_rfl) (SubV.refl _) ⟨lo3, rfl, hO⟩))
  · refine A_cl (C_skip (by kernel_rfl) ?_)
    refine E_has (l := [(0, (eL e_api_Jump s0))]) (.eq (by kernel_rfl)) ?_
    refine E_done (thenA_normal (?_))
    refine C_seq (by kernel_rfl) ?_
    refine A_cl (C_region ttOk (n := 4) (by kernel_rfl) (by kernel_rfl) ?_)
    refine R_bsl (xs := []) (k := 2) (by kernel_rfl) (by kernel_rfl) ?_
    refine R_pure 2 (by kernel_rfl) (Ds := []) (by kernel_rfl) trivial ?_
    obtain ⟨c6, h0⟩ := asrtE h0
    refine R_appNL (e := e_api_Jump) s0 (fun _ => .bad) 2 16 (eL e_api_Jump s0) (fun lo5 => [(lo5, 2, List.map e_api_Jump s0)]) (by kernel_rfl) (by kernel_rfl) hO (appX_eL (fun _ => by kernel_rfl)) c6 (fun _ => by kernel_rfl) ?_
    intro lo5 H hO
    refine R_all (Ds := []) (by kernel_rfl) trivial ?_
    refine E_has (l := [(2, (.msl 2 lo5 0 (List.length s0)))]) (.eq (by kernel_rfl)) ?_
    refine E_done (thenA_normal (?_))
    refine A_cl (C_ret (by kernel_rfl) ?_)
    refine E_has (l := [(2, (.msl 2 lo5 0 (List.length s0)))]) (.eq (by kernel_rfl)) ?_
    obtain rfl := Option.some.inj h0
    exact E_done (Q_ret (x := (.msl 2 lo5 0 (List.length s0))) (by kernel_rfl) (SubV.refl _) ⟨lo5, rfl, hO⟩)

theorem w_slices_insertionSortCmpFunc_api_Jump (lo0p : Nat) (data0 : (List api_Jump)) (a1 : Int) (b2 : Int) (cmp3_f : Nat) (cmp3_a cmp3_c : List V) (cmp3 : api_Jump → api_Jump → Option Int) (cmp3_h : ∀ a0 a1 r, cmp3 a0 a1 = some r → Fine Try.prog cmp3_f (cmp3_a ++ [(e_api_Jump a0), (e_api_Jump a1)] ++ cmp3_c) (eInt .i64 r)) (r : List api_Jump) (h0 : s_slices_insertionSortCmpFunc_api_Jump data0 a1 b2 cmp3 = some r) : FineI Try.prog 52 lo0p 2 (List.map e_api_Jump data0) (List.map e_api_Jump r) [(.msl 2 lo0p 0 (List.length data0)), (eInt .i64 a1), (eInt .i64 b2), (.fn (.func cmp3_f) cmp3_a cmp3_c)] (.tup []) := by
  intro H0 hl0
  refine F_walk Try.func52 (by kernel_rfl) (by kernel_rfl) (by kernel_rfl) ?_
  have hO := Owns.start1 hl0
  clear hl0
  obtain ⟨N0, hN0⟩ : ∃ n, n = List.length data0 := ⟨_, rfl⟩
  have hN : List.length data0 = N0 := hN0.symm
  unfold s_slices_insertionSortCmpFunc_api_Jump at h0
  refine C_seq (by kernel_rfl) ?_
  refine A_cl (C_region ttOk (n := 3) (by kernel_rfl) (by kernel_rfl) ?_)
  refine R_all (Ds := []) (by kernel_rfl) trivial ?_
  refine E_has (l := [(0, (.msl 2 lo0p 0 (List.length data0))), (1, (eInt .i64 a1)), (2, (eInt .i64 b2)), (3, (.fn (.func cmp3_f) cmp3_a cmp3_c)), (8, (eInt .i64 (IntKind.i64.wrap (a1 + (1 : Int)))))]) (.eq (by kernel_rfl)) ?_
  refine E_done (thenA_normal (?_))
  refine C_block (id := 0) (by kernel_rfl) (by kernel_rfl) ?_
  refine C_has (l := [(0, (.msl 2 lo0p 0 (List.length data0))), (1, (eInt .i64 a1)), (2, (eInt .i64 b2)), (3, (.fn (.func cmp3_f) cmp3_a cmp3_c)), (8, (eInt .i64 (IntKind.i64.wrap (a1 + (1 : Int)))))]) (.eq (by kernel_rfl)) ?_
  refine C_cut (fun T H => ∃ data0 : List api_Jump, ∃ i8 : Int, Has T [(0, (.msl 2 lo0p 0 (List.length data0))), (1, (eInt .i64 a1)), (2, (eInt .i64 b2)), (3, (.fn (.func cmp3_f) cmp3_a cmp3_c)), (8, (eInt .i64 i8))] ∧ Owns ⟨H0, [lo0p]⟩ H [(lo0p, 2, List.map e_api_Jump data0)] ∧ List.length data0 = N0 ∧ slices_insertionSortCmpFunc_api_Jump_h1 cmp3 data0 a1 b2 i8 = some r) ?_ ⟨data0, IntKind.i64.wrap (a1 + (1 : Int)), .eq (by kernel_rfl), hO, hN, h0⟩
  clear hO hN h0
  rintro T H ⟨data0, i8, hT, hO, hN, h0⟩
  refine C_has hT ?_
  clear hT
  unfold slices_insertionSortCmpFunc_api_Jump_h1 at h0
  obtain ⟨rr0, hl0, h0⟩ := bindE h0
  refine C_loopS (by kernel_rfl) (fun (s : List api_Jump × Int) T H => Has T [(0, (.msl 2 lo0p 0 (List.length s.1))), (1, (eInt .i64 a1)), (2, (eInt .i64 b2)), (3, (.fn (.func cmp3_f) cmp3_a cmp3_c)), (8, (eInt .i64 s.2))] ∧ Owns ⟨H0, [lo0p]⟩ H [(lo0p, 2, List.map e_api_Jump s.1)] ∧ List.length s.1 = N0) hl0 ⟨.eq (by kernel_rfl), hO, hN⟩ ?_
  clear hO hN
  rintro k0 s out1 T H ⟨hT, hO, hN⟩ h1 ho0
  obtain ⟨data0, i8⟩ := s
  replace h1 : slices_insertionSortCmpFunc_api_Jump_l1 cmp3 a1 b2 data0 i8 = some out1 := h1
  refine C_has (l := [(0, (.msl 2 lo0p 0 (List.length data0))), (1, (eInt .i64 a1)), (2, (eInt .i64 b2)), (3, (.fn (.func cmp3_f) cmp3_a cmp3_c)), (8, (eInt .i64 i8))]) hT ?_
  clear hT
  unfold slices_insertionSortCmpFunc_api_Jump_l1 at h1
  refine C_seq (by kernel_rfl) ?_
  refine C_seq (by kernel_rfl) ?_
  refine A_cl (C_region ttOk (n := 3) (by kernel_rfl) (by kernel_rfl) ?_)
  refine R_all (Ds := []) (by kernel_rfl) trivial ?_
  refine E_has (l := [(0, (.msl 2 lo0p 0 (List.length data0))), (1, (eInt .i64 a1)), (2, (eInt .i64 b2)), (3, (.fn (.func cmp3_f) cmp3_a cmp3_c)), (8, (eInt .i64 i8)), (14, (eBool (decide (i8 < b2))))]) (.eq (by kernel_rfl)) ?_
  refine E_done (thenA_normal (?_))
  refine C_cond (b := decide (i8 < b2)) (by kernel_rfl) (by kernel_rfl) (fun hc11 => ?_) (fun hc11 => ?_)
  · replace h1 := condT hc11 h1
    refine A_cl (C_skip (by kernel_rfl) ?_)
    refine E_has (l := [(0, (.msl 2 lo0p 0 (List.length data0))), (1, (eInt .i64 a1)), (2, (eInt .i64 b2)), (3, (.fn (.func cmp3_f) cmp3_a cmp3_c)), (8, (eInt .i64 i8))]) (.eq (by kernel_rfl)) ?_
    refine E_done (thenA_normal (?_))
    refine C_seqJ (by kernel_rfl) (fun T H => ∃ data0 : List api_Jump, Has T [(0, (.msl 2 lo0p 0 (List.length data0))), (1, (eInt .i64 a1)), (2, (eInt .i64 b2)), (3, (.fn (.func cmp3_f) cmp3_a cmp3_c)), (8, (eInt .i64 i8))] ∧ Owns ⟨H0, [lo0p]⟩ H [(lo0p, 2, List.map e_api_Jump data0)] ∧ List.length data0 = N0 ∧ slices_insertionSortCmpFunc_api_Jump_j2 cmp3 data0 a1 b2 i8 = some out1) ?_ ?_
    · clear hO hN h1
      rintro T H ⟨data0, hT, hO, hN, h1⟩
      refine C_has hT ?_
      clear hT
      unfold slices_insertionSortCmpFunc_api_Jump_j2 at h1
      refine A_cl (C_region ttOk (n := 3) (by kernel_rfl) (by kernel_rfl) ?_)
      refine R_all (Ds := []) (by kernel_rfl) trivial ?_
      refine E_has (l := [(0, (.msl 2 lo0p 0 (List.length data0))), (1, (eInt .i64 a1)), (2, (eInt .i64 b2)), (3, (.fn (.func cmp3_f) cmp3_a cmp3_c)), (8, (eInt .i64 (IntKind.i64.wrap (i8 + (1 : Int)))))]) (.eq (by kernel_rfl)) ?_
      exact E_done (thenA_normal (⟨rfl, (data0, IntKind.i64.wrap (i8 + (1 : Int))), (Option.some.inj h1).symm, .eq (by kernel_rfl), hO, hN⟩))
    · refine C_block (id := 1) (by kernel_rfl) (by kernel_rfl) ?_
      refine C_seq (by kernel_rfl) ?_
      refine A_cl (C_region ttOk (n := 2) (by kernel_rfl) (by kernel_rfl) ?_)
      refine R_all (Ds := []) (by kernel_rfl) trivial ?_
      refine E_has (l := [(0, (.msl 2 lo0p 0 (List.length data0))), (1, (eInt .i64 a1)), (2, (eInt .i64 b2)), (3, (.fn (.func cmp3_f) cmp3_a cmp3_c)), (8, (eInt .i64 i8)), (9, (eInt .i64 i8))]) (.eq (by kernel_rfl)) ?_
      refine E_done (thenA_normal (?_))
      refine C_block (id := 2) (by kernel_rfl) (by kernel_rfl) ?_
      refine C_has (l := [(0, (.msl 2 lo0p 0 (List.length data0))), (1, (eInt .i64 a1)), (2, (eInt .i64 b2)), (3, (.fn (.func cmp3_f) cmp3_a cmp3_c)), (8, (eInt .i64 i8)), (9, (eInt .i64 i8))]) (.eq (by kernel_rfl)) ?_
      refine C_cut (fun T H => ∃ data0 : List api_Jump, ∃ j9 : Int, Has T [(0, (.msl 2 lo0p 0 (List.length data0))), (1, (eInt .i64 a1)), (2, (eInt .i64 b2)), (3, (.fn (.func cmp3_f) cmp3_a cmp3_c)), (8, (eInt .i64 i8)), (9, (eInt .i64 j9))] ∧ Owns ⟨H0, [lo0p]⟩ H [(lo0p, 2, List.map e_api_Jump data0)] ∧ List.length data0 = N0 ∧ slices_insertionSortCmpFunc_api_Jump_h3 cmp3 data0 a1 b2 i8 j9 = some out1) ?_ ⟨data0, i8, .eq (by kernel_rfl), hO, hN, h1⟩
      clear hO hN h1
      rintro T H ⟨data0, j9, hT, hO, hN, h1⟩
      refine C_has hT ?_
      clear hT
      unfold slices_insertionSortCmpFunc_api_Jump_h3 at h1
      obtain ⟨rr1, hl1, h1⟩ := bindE h1
      refine C_loopS (by kernel_rfl) (fun (s : List api_Jump × Int) T H => Has T [(0, (.msl 2 lo0p 0 (List.length s.1))), (1, (eInt .i64 a1)), (2, (eInt .i64 b2)), (3, (.fn (.func cmp3_f) cmp3_a cmp3_c)), (8, (eInt .i64 i8)), (9, (eInt .i64 s.2))] ∧ Owns ⟨H0, [lo0p]⟩ H [(lo0p, 2, List.map e_api_Jump s.1)] ∧ List.length s.1 = N0) hl1 ⟨.eq (by kernel_rfl), hO, hN⟩ ?_
      clear hO hN
      rintro k1 s out2 T H ⟨hT, hO, hN⟩ h2 ho1
      obtain ⟨data0, j9⟩ := s
      replace h2 : slices_insertionSortCmpFunc_api_Jump_l3 cmp3 a1 b2 i8 data0 j9 = some out2 := h2
      refine C_has (l := [(0, (.msl 2 lo0p 0 (List.length data0))), (1, (eInt .i64 a1)), (2, (eInt .i64 b2)), (3, (.fn (.func cmp3_f) cmp3_a cmp3_c)), (8, (eInt .i64 i8)), (9, (eInt .i64 j9))]) hT ?_
      clear hT
      unfold slices_insertionSortCmpFunc_api_Jump_l3 at h2
      refine C_seq (by kernel_rfl) ?_
      refine C_seq (by kernel_rfl) ?_
      obtain ⟨c1, h2⟩ := asrtE h2
      obtain ⟨c2, h2⟩ := asrtE h2
      obtain ⟨x3, hx4, h2⟩ := bindE h2
      refine A_cl (C_draw ttOk (by kernel_rfl) (n := 17) (by kernel_rfl) (by kernel_rfl) (by kernel_rfl) ?_)
      refine D_mono (K := fun T H => Has (lift T) [(0, (.msl 2 lo0p 0 (List.length data0))), (1, (eInt .i64 a1)), (2, (eInt .i64 b2)), (3, (.fn (.func cmp3_f) cmp3_a cmp3_c)), (8, (eInt .i64 i8)), (9, (eInt .i64 j9)), (34, (eBool ((decide (a1 < j9)) && (decide (x3 < (0 : Int))))))] ∧ Owns ⟨H0, [lo0p]⟩ H [(lo0p, 2, List.map e_api_Jump data0)]) ?_ ?_
      · refine D_pure 4 (by kernel_rfl) (Ds := []) (by kernel_rfl) trivial ?_
        refine D_split (t := 21) (e := decide (a1 < j9)) (by kernel_rfl) (fun hg5 => ?_) (fun hg5 => ?_)
        · refine D_pure 8 (by kernel_rfl) (Ds := [0 ≤ j9 ∧ j9 < ((List.length data0 : Nat) : Int)]) (by kernel_rfl) ⟨(c1 (by simp [hg5])), trivial⟩ ?_
          refine D_loadV 0 lo0p 2 (0 + Int.toNat j9) (e_api_Jump (List.getD data0 (Int.toNat j9) default)) (e_api_Jump (List.getD data0 (Int.toNat j9) default)) (List.map e_api_Jump data0) (by kernel_rfl) (by kernel_rfl) hO (by kernel_rfl) (ownGet (c1 (by simp [hg5]))) ?_
          refine D_pure 13 (by kernel_rfl) (Ds := [0 ≤ (IntKind.i64.wrap (j9 - (1 : Int))) ∧ (IntKind.i64.wrap (j9 - (1 : Int))) < ((List.length data0 : Nat) : Int)]) (by kernel_rfl) ⟨(c2 (by simp [hg5])), trivial⟩ ?_
          refine D_loadV 0 lo0p 2 (0 + Int.toNat (IntKind.i64.wrap (j9 - (1 : Int)))) (e_api_Jump (List.getD data0 (Int.toNat (IntKind.i64.wrap (j9 - (1 : Int)))) default)) (e_api_Jump (List.getD data0 (Int.toNat (IntKind.i64.wrap (j9 - (1 : Int)))) default)) (List.map e_api_Jump data0) (by kernel_rfl) (by kernel_rfl) hO (by kernel_rfl) (ownGet (c2 (by simp [hg5]))) ?_
          refine D_callV cmp3_f (cmp3_a ++ [(e_api_Jump (List.getD data0 (Int.toNat j9) default)), (e_api_Jump (List.getD data0 (Int.toNat (IntKind.i64.wrap (j9 - (1 : Int)))) default))] ++ cmp3_c) (eInt .i64 x3) (by kernel_rfl) (by kernel_rfl) (cmp3_h (List.getD data0 (Int.toNat j9) default) (List.getD data0 (Int.toNat (IntKind.i64.wrap (j9 - (1 : Int)))) default) _ (gcallE hx4 (by simp [hg5]))) hO ?_
          intro H hO
          refine D_all (Ds := []) (by kernel_rfl) trivial ?_
          exact ⟨⟨[(0, (.msl 2 lo0p 0 (List.length data0))), (1, (eInt .i64 a1)), (2, (eInt .i64 b2)), (3, (.fn (.func cmp3_f) cmp3_a cmp3_c)), (8, (eInt .i64 i8)), (9, (eInt .i64 j9)), (34, (eBool (decide (x3 < (0 : Int)))))], by kernel_rfl, rfl, ⟨SubV.refl _, SubV.refl _, SubV.refl _, SubV.refl _, SubV.refl _, SubV.refl _, SubV.eq (by simp [eBool, hg5]), trivial⟩⟩, hO⟩
        · refine D_all (Ds := []) (by kernel_rfl) trivial ?_
          exact ⟨⟨[(0, (.msl 2 lo0p 0 (List.length data0))), (1, (eInt .i64 a1)), (2, (eInt .i64 b2)), (3, (.fn (.func cmp3_f) cmp3_a cmp3_c)), (8, (eInt .i64 i8)), (9, (eInt .i64 j9)), (34, (eBool false))], by kernel_rfl, rfl, ⟨SubV.refl _, SubV.refl _, SubV.refl _, SubV.refl _, SubV.refl _, SubV.refl _, SubV.eq (by simp [eBool, hg5]), trivial⟩⟩, hO⟩
      · rintro T H ⟨hT, hO⟩
        refine E_has hT ?_
        clear hT
        refine E_has (l := [(0, (.msl 2 lo0p 0 (List.length data0))), (1, (eInt .i64 a1)), (2, (eInt .i64 b2)), (3, (.fn (.func cmp3_f) cmp3_a cmp3_c)), (8, (eInt .i64 i8)), (9, (eInt .i64 j9)), (34, (eBool ((decide (a1 < j9)) && (decide (x3 < (0 : Int))))))]) (.eq (by kernel_rfl)) ?_
        refine E_done (thenA_normal (?_))
        refine C_cond (b := (decide (a1 < j9)) && (decide (x3 < (0 : Int)))) (by kernel_rfl) (by kernel_rfl) (fun hc10 => ?_) (fun hc10 => ?_)
        · replace h2 := condT hc10 h2
          refine A_cl (C_skip (by kernel_rfl) ?_)
          refine E_has (l := [(0, (.msl 2 lo0p 0 (List.length data0))), (1, (eInt .i64 a1)), (2, (eInt .i64 b2)), (3, (.fn (.func cmp3_f) cmp3_a cmp3_c)), (8, (eInt .i64 i8)), (9, (eInt .i64 j9))]) (.eq (by kernel_rfl)) ?_
          refine E_done (thenA_normal (?_))
          refine C_seq (by kernel_rfl) ?_
          refine C_block (id := 3) (by kernel_rfl) (by kernel_rfl) ?_
          refine A_cl (C_draw ttOk (by kernel_rfl) (n := 18) (by kernel_rfl) (by kernel_rfl) (by kernel_rfl) ?_)
          obtain ⟨c6, h2⟩ := asrtE h2
          refine D_pure 9 (by kernel_rfl) (Ds := [0 ≤ (IntKind.i64.wrap (j9 - (1 : Int))) ∧ (IntKind.i64.wrap (j9 - (1 : Int))) < ((List.length data0 : Nat) : Int)]) (by kernel_rfl) ⟨c6, trivial⟩ ?_
          refine D_loadO 0 lo0p 2 (0 + Int.toNat (IntKind.i64.wrap (j9 - (1 : Int)))) (e_api_Jump (List.getD data0 (Int.toNat (IntKind.i64.wrap (j9 - (1 : Int)))) default)) (e_api_Jump (List.getD data0 (Int.toNat (IntKind.i64.wrap (j9 - (1 : Int)))) default)) (List.map e_api_Jump data0) (by kernel_rfl) (by kernel_rfl) (by kernel_rfl) hO (by kernel_rfl) (ownGet c6) ?_
          obtain ⟨c7, h2⟩ := asrtE h2
          refine D_pure 13 (by kernel_rfl) (Ds := [0 ≤ j9 ∧ j9 < ((List.length data0 : Nat) : Int)]) (by kernel_rfl) ⟨c7, trivial⟩ ?_
          refine D_loadO 0 lo0p 2 (0 + Int.toNat j9) (e_api_Jump (List.getD data0 (Int.toNat j9) default)) (e_api_Jump (List.getD data0 (Int.toNat j9) default)) (List.map e_api_Jump data0) (by kernel_rfl) (by kernel_rfl) (by kernel_rfl) hO (by kernel_rfl) (ownGet c7) ?_
          obtain ⟨c8, h2⟩ := asrtE h2
          refine D_pure 15 (by kernel_rfl) (Ds := [0 ≤ j9 ∧ j9 < ((List.length data0 : Nat) : Int)]) (by kernel_rfl) ⟨c8, trivial⟩ ?_
          refine D_storeO 0 lo0p 2 (0 + Int.toNat j9) (e_api_Jump (List.getD data0 (Int.toNat j9) default)) (e_api_Jump (List.getD data0 (Int.toNat (IntKind.i64.wrap (j9 - (1 : Int)))) default)) (List.map e_api_Jump data0) [(lo0p, 2, List.map e_api_Jump (List.set data0 (Int.toNat j9) (List.getD data0 (Int.toNat (IntKind.i64.wrap (j9 - (1 : Int)))) default)))] (by kernel_rfl) (by kernel_rfl) (by kernel_rfl) hO (by kernel_rfl) (ownGet c8) (by simp only [List.set, ownSet]) ?_
          intro H hO
          replace hN : List.length (List.set data0 (Int.toNat j9) (List.getD data0 (Int.toNat (IntKind.i64.wrap (j9 - (1 : Int)))) default)) = N0 := by simpa using hN
          obtain ⟨c9, h2⟩ := asrtE h2
          refine D_pure 17 (by kernel_rfl) (Ds := [0 ≤ (IntKind.i64.wrap (j9 - (1 : Int))) ∧ (IntKind.i64.wrap (j9 - (1 : Int))) < ((List.length data0 : Nat) : Int)]) (by kernel_rfl) ⟨c9, trivial⟩ ?_
          refine D_storeO 0 lo0p 2 (0 + Int.toNat (IntKind.i64.wrap (j9 - (1 : Int)))) (e_api_Jump (List.getD (List.set data0 (Int.toNat j9) (List.getD data0 (Int.toNat (IntKind.i64.wrap (j9 - (1 : Int)))) default)) (Int.toNat (IntKind.i64.wrap (j9 - (1 : Int)))) default)) (e_api_Jump (List.getD data0 (Int.toNat j9) default)) (List.map e_api_Jump (List.set data0 (Int.toNat j9) (List.getD data0 (Int.toNat (IntKind.i64.wrap (j9 - (1 : Int)))) default))) [(lo0p, 2, List.map e_api_Jump (List.set (List.set data0 (Int.toNat j9) (List.getD data0 (Int.toNat (IntKind.i64.wrap (j9 - (1 : Int)))) default)) (Int.toNat (IntKind.i64.wrap (j9 - (1 : Int)))) (List.getD data0 (Int.toNat j9) default)))] (by kernel_rfl) (by kernel_rfl) (by kernel_rfl) hO (by kernel_rfl) (ownGetN c9 (by simp [])) (by simp only [List.set, ownSet]) ?_
          intro H hO
          replace hN : List.length (List.set (List.set data0 (Int.toNat j9) (List.getD data0 (Int.toNat (IntKind.i64.wrap (j9 - (1 : Int)))) default)) (Int.toNat (IntKind.i64.wrap (j9 - (1 : Int)))) (List.getD data0 (Int.toNat j9) default)) = N0 := by simpa using hN
          refine D_end (by kernel_rfl) ?_
          refine E_has (l := [(0, (.msl 2 lo0p 0 (List.length (List.set (List.set data0 (Int.toNat j9) (List.getD data0 (Int.toNat (IntKind.i64.wrap (j9 - (1 : Int)))) default)) (Int.toNat (IntKind.i64.wrap (j9 - (1 : Int)))) (List.getD data0 (Int.toNat j9) default))))), (1, (eInt .i64 a1)), (2, (eInt .i64 b2)), (3, (.fn (.func cmp3_f) cmp3_a cmp3_c)), (8, (eInt .i64 i8)), (9, (eInt .i64 j9))]) ⟨[(0, (.msl 2 lo0p 0 (List.length data0))), (1, (eInt .i64 a1)), (2, (eInt .i64 b2)), (3, (.fn (.func cmp3_f) cmp3_a cmp3_c)), (8, (eInt .i64 i8)), (9, (eInt .i64 j9))], by kernel_rfl, rfl, ⟨SubV.eq (by simp []), SubV.refl _, SubV.refl _, SubV.refl _, SubV.refl _, SubV.refl _, trivial⟩⟩ ?_
          refine E_done (blockA_normal (thenA_normal (?_)))
          refine A_cl (C_region ttOk (n := 3) (by kernel_rfl) (by kernel_rfl) ?_)
          refine R_all (Ds := []) (by kernel_rfl) trivial ?_
          refine E_has (l := [(0, (.msl 2 lo0p 0 (List.length (List.set (List.set data0 (Int.toNat j9) (List.getD data0 (Int.toNat (IntKind.i64.wrap (j9 - (1 : Int)))) default)) (Int.toNat (IntKind.i64.wrap (j9 - (1 : Int)))) (List.getD data0 (Int.toNat j9) default))))), (1, (eInt .i64 a1)), (2, (eInt .i64 b2)), (3, (.fn (.func cmp3_f) cmp3_a cmp3_c)), (8, (eInt .i64 i8)), (9, (eInt .i64 (IntKind.i64.wrap (j9 - (1 : Int)))))]) (.eq (by kernel_rfl)) ?_
          exact E_done (thenA_normal (⟨rfl, (List.set (List.set data0 (Int.toNat j9) (List.getD data0 (Int.toNat (IntKind.i64.wrap (j9 - (1 : Int)))) default)) (Int.toNat (IntKind.i64.wrap (j9 - (1 : Int)))) (List.getD data0 (Int.toNat j9) default), IntKind.i64.wrap (j9 - (1 : Int))), (Option.some.inj h2).symm, .eq (by kernel_rfl), hO, hN⟩))
        · replace h2 := condF hc10 h2
          refine A_cl (C_exit (id := 2) (by kernel_rfl) (by kernel_rfl) ?_)
          refine E_has (l := [(0, (.msl 2 lo0p 0 (List.length data0))), (1, (eInt .i64 a1)), (2, (eInt .i64 b2)), (3, (.fn (.func cmp3_f) cmp3_a cmp3_c)), (8, (eInt .i64 i8))]) (.eq (by kernel_rfl)) ?_
          obtain rfl := Option.some.inj h2
          obtain rfl : _ = rr1 := ho1
          replace h1 : slices_insertionSortCmpFunc_api_Jump_j2 cmp3 data0 a1 b2 i8 = some out1 := h1
          exact E_done (thenA_exit (thenA_exit (blockA_hit (blockA_normal (thenA_normal (⟨rfl, data0, .eq (by kernel_rfl), hO, hN, h1⟩))))))
  · replace h1 := condF hc11 h1
    refine A_cl (C_exit (id := 0) (by kernel_rfl) (by kernel_rfl) ?_)
    refine E_has (l := [(0, (.msl 2 lo0p 0 (List.length data0)))]) (.eq (by kernel_rfl)) ?_
    obtain rfl := Option.some.inj h1
    obtain rfl : _ = rr0 := ho0
    replace h0 : some data0 = some r := h0
    obtain rfl := Option.some.inj h0
    exact E_done (thenA_exit (thenA_exit (blockA_hit (Q_end (x := (.tup [])) (by kernel_rfl) (SubV.refl _) ⟨rfl, hO.ext, hO.at 0 (by kernel_rfl), by simp only [List.length_map]; exact hN.trans hN0⟩))))

theorem w_slices_swapRangeCmpFunc_api_Jump (lo0p : Nat) (data0 : (List api_Jump)) (a1 : Int) (b2 : Int) (n3 : Int) (cmp4_f : Nat) (cmp4_a cmp4_c : List V) (cmp4 : api_Jump → api_Jump → Option Int) (cmp4_h : ∀ a0 a1 r, cmp4 a0 a1 = some r → Fine Try.prog cmp4_f (cmp4_a ++ [(e_api_Jump a0), (e_api_Jump a1)] ++ cmp4_c) (eInt .i64 r)) (r : List api_Jump) (h0 : s_slices_swapRangeCmpFunc_api_Jump data0 a1 b2 n3 cmp4 = some r) : FineI Try.prog 55 lo0p 2 (List.map e_api_Jump data0) (List.map e_api_Jump r) [(.msl 2 lo0p 0 (List.length data0)), (eInt .i64 a1), (eInt .i64 b2), (eInt .i64 n3), (.fn (.func cmp4_f) cmp4_a cmp4_c)] (.tup []) := by
  intro H0 hl0
  refine F_walk Try.func55 (by kernel_rfl) (by kernel_rfl) (by kernel_rfl) ?_
  have hO := Owns.start1 hl0
  clear hl0
  obtain ⟨N0, hN0⟩ : ∃ n, n = List.length data0 := ⟨_, rfl⟩
  have hN : List.length data0 = N0 := hN0.symm
  unfold s_slices_swapRangeCmpFunc_api_Jump at h0
  refine C_seq (by kernel_rfl) ?_
  refine A_cl (C_region ttOk (n := 1) (by kernel_rfl) (by kernel_rfl) ?_)
  refine R_all (Ds := []) (by kernel_rfl) trivial ?_
  refine E_has (l := [(0, (.msl 2 lo0p 0 (List.length data0))), (1, (eInt .i64 a1)), (2, (eInt .i64 b2)), (3, (eInt .i64 n3)), (10, (eInt .i64 (0 : Int)))]) (.eq (by kernel_rfl)) ?_
  refine E_done (thenA_normal (?_))
  refine C_block (id := 0) (by kernel_rfl) (by kernel_rfl) ?_
  refine C_has (l := [(0, (.msl 2 lo0p 0 (List.length data0))), (1, (eInt .i64 a1)), (2, (eInt .i64 b2)), (3, (eInt .i64 n3)), (10, (eInt .i64 (0 : Int)))]) (.eq (by kernel_rfl)) ?_
  refine C_cut (fun T H => ∃ data0 : List api_Jump, ∃ i10 : Int, Has T [(0, (.msl 2 lo0p 0 (List.length data0))), (1, (eInt .i64 a1)), (2, (eInt .i64 b2)), (3, (eInt .i64 n3)), (10, (eInt .i64 i10))] ∧ Owns ⟨H0, [lo0p]⟩ H [(lo0p, 2, List.map e_api_Jump data0)] ∧ List.length data0 = N0 ∧ slices_swapRangeCmpFunc_api_Jump_h1 cmp4 data0 a1 b2 n3 i10 = some r) ?_ ⟨data0, (0 : Int), .eq (by kernel_rfl), hO, hN, h0⟩
  clear hO hN h0
  rintro T H ⟨data0, i10, hT, hO, hN, h0⟩
  refine C_has hT ?_
  clear hT
  unfold slices_swapRangeCmpFunc_api_Jump_h1 at h0
  obtain ⟨rr0, hl0, h0⟩ := bindE h0
  refine C_loopS (by kernel_rfl) (fun (s : List api_Jump × Int) T H => Has T [(0, (.msl 2 lo0p 0 (List.length s.1))), (1, (eInt .i64 a1)), (2, (eInt .i64 b2)), (3, (eInt .i64 n3)), (10, (eInt .i64 s.2))] ∧ Owns ⟨H0, [lo0p]⟩ H [(lo0p, 2, List.map e_api_Jump s.1)] ∧ List.length s.1 = N0) hl0 ⟨.eq (by kernel_rfl), hO, hN⟩ ?_
  clear hO hN
  rintro k0 s out1 T H ⟨hT, hO, hN⟩ h1 ho0
  obtain ⟨data0, i10⟩ := s
  replace h1 : slices_swapRangeCmpFunc_api_Jump_l1 cmp4 a1 b2 n3 data0 i10 = some out1 := h1
  refine C_has (l := [(0, (.msl 2 lo0p 0 (List.length data0))), (1, (eInt .i64 a1)), (2, (eInt .i64 b2)), (3, (eInt .i64 n3)), (10, (eInt .i64 i10))]) hT ?_
  clear hT
  unfold slices_swapRangeCmpFunc_api_Jump_l1 at h1
  refine C_seq (by kernel_rfl) ?_
  refine C_seq (by kernel_rfl) ?_
  refine A_cl (C_region ttOk (n := 3) (by kernel_rfl) (by kernel_rfl) ?_)
  refine R_all (Ds := []) (by kernel_rfl) trivial ?_
  refine E_has (l := [(0, (.msl 2 lo0p 0 (List.length data0))), (1, (eInt .i64 a1)), (2, (eInt .i64 b2)), (3, (eInt .i64 n3)), (10, (eInt .i64 i10)), (13, (eBool (decide (i10 < n3))))]) (.eq (by kernel_rfl)) ?_
  refine E_done (thenA_normal (?_))
  refine C_cond (b := decide (i10 < n3)) (by kernel_rfl) (by kernel_rfl) (fun hc5 => ?_) (fun hc5 => ?_)
  · replace h1 := condT hc5 h1
    refine A_cl (C_skip (by kernel_rfl) ?_)
    refine E_has (l := [(0, (.msl 2 lo0p 0 (List.length data0))), (1, (eInt .i64 a1)), (2, (eInt .i64 b2)), (3, (eInt .i64 n3)), (10, (eInt .i64 i10))]) (.eq (by kernel_rfl)) ?_
    refine E_done (thenA_normal (?_))
    refine C_seq (by kernel_rfl) ?_
    refine C_block (id := 1) (by kernel_rfl) (by kernel_rfl) ?_
    refine A_cl (C_draw ttOk (by kernel_rfl) (n := 24) (by kernel_rfl) (by kernel_rfl) (by kernel_rfl) ?_)
    obtain ⟨c1, h1⟩ := asrtE h1
    refine D_pure 13 (by kernel_rfl) (Ds := [0 ≤ (IntKind.i64.wrap (b2 + i10)) ∧ (IntKind.i64.wrap (b2 + i10)) < ((List.length data0 : Nat) : Int)]) (by kernel_rfl) ⟨c1, trivial⟩ ?_
    refine D_loadO 0 lo0p 2 (0 + Int.toNat (IntKind.i64.wrap (b2 + i10))) (e_api_Jump (List.getD data0 (Int.toNat (IntKind.i64.wrap (b2 + i10))) default)) (e_api_Jump (List.getD data0 (Int.toNat (IntKind.i64.wrap (b2 + i10))) default)) (List.map e_api_Jump data0) (by kernel_rfl) (by kernel_rfl) (by kernel_rfl) hO (by kernel_rfl) (ownGet c1) ?_
    obtain ⟨c2, h1⟩ := asrtE h1
    refine D_pure 19 (by kernel_rfl) (Ds := [0 ≤ (IntKind.i64.wrap (a1 + i10)) ∧ (IntKind.i64.wrap (a1 + i10)) < ((List.length data0 : Nat) : Int)]) (by kernel_rfl) ⟨c2, trivial⟩ ?_
    refine D_loadO 0 lo0p 2 (0 + Int.toNat (IntKind.i64.wrap (a1 + i10))) (e_api_Jump (List.getD data0 (Int.toNat (IntKind.i64.wrap (a1 + i10))) default)) (e_api_Jump (List.getD data0 (Int.toNat (IntKind.i64.wrap (a1 + i10))) default)) (List.map e_api_Jump data0) (by kernel_rfl) (by kernel_rfl) (by kernel_rfl) hO (by kernel_rfl) (ownGet c2) ?_
    obtain ⟨c3, h1⟩ := asrtE h1
    refine D_pure 21 (by kernel_rfl) (Ds := [0 ≤ (IntKind.i64.wrap (a1 + i10)) ∧ (IntKind.i64.wrap (a1 + i10)) < ((List.length data0 : Nat) : Int)]) (by kernel_rfl) ⟨c3, trivial⟩ ?_
    refine D_storeO 0 lo0p 2 (0 + Int.toNat (IntKind.i64.wrap (a1 + i10))) (e_api_Jump (List.getD data0 (Int.toNat (IntKind.i64.wrap (a1 + i10))) default)) (e_api_Jump (List.getD data0 (Int.toNat (IntKind.i64.wrap (b2 + i10))) default)) (List.map e_api_Jump data0) [(lo0p, 2, List.map e_api_Jump (List.set data0 (Int.toNat (IntKind.i64.wrap (a1 + i10))) (List.getD data0 (Int.toNat (IntKind.i64.wrap (b2 + i10))) default)))] (by kernel_rfl) (by kernel_rfl) (by kernel_rfl) hO (by kernel_rfl) (ownGet c3) (by simp only [List.set, ownSet]) ?_
    intro H hO
    replace hN : List.length (List.set data0 (Int.toNat (IntKind.i64.wrap (a1 + i10))) (List.getD data0 (Int.toNat (IntKind.i64.wrap (b2 + i10))) default)) = N0 := by simpa using hN
    obtain ⟨c4, h1⟩ := asrtE h1
    refine D_pure 23 (by kernel_rfl) (Ds := [0 ≤ (IntKind.i64.wrap (b2 + i10)) ∧ (IntKind.i64.wrap (b2 + i10)) < ((List.length data0 : Nat) : Int)]) (by kernel_rfl) ⟨c4, trivial⟩ ?_
    refine D_storeO 0 lo0p 2 (0 + Int.toNat (IntKind.i64.wrap (b2 + i10))) (e_api_Jump (List.getD (List.set data0 (Int.toNat (IntKind.i64.wrap (a1 + i10))) (List.getD data0 (Int.toNat (IntKind.i64.wrap (b2 + i10))) default)) (Int.toNat (IntKind.i64.wrap (b2 + i10))) default)) (e_api_Jump (List.getD data0 (Int.toNat (IntKind.i64.wrap (a1 + i10))) default)) (List.map e_api_Jump (List.set data0 (Int.toNat (IntKind.i64.wrap (a1 + i10))) (List.getD data0 (Int.toNat (IntKind.i64.wrap (b2 + i10))) default))) [(lo0p, 2, List.map e_api_Jump (List.set (List.set data0 (Int.toNat (IntKind.i64.wrap (a1 + i10))) (List.getD data0 (Int.toNat (IntKind.i64.wrap (b2 + i10))) default)) (Int.toNat (IntKind.i64.wrap (b2 + i10))) (List.getD data0 (Int.toNat (IntKind.i64.wrap (a1 + i10))) default)))] (by kernel_rfl) (by kernel_rfl) (by kernel_rfl) hO (by kernel_rfl) (ownGetN c4 (by simp [])) (by simp only [List.set, ownSet]) ?_
    intro H hO
    replace hN : List.length (List.set (List.set data0 (Int.toNat (IntKind.i64.wrap (a1 + i10))) (List.getD data0 (Int.toNat (IntKind.i64.wrap (b2 + i10))) default)) (Int.toNat (IntKind.i64.wrap (b2 + i10))) (List.getD data0 (Int.toNat (IntKind.i64.wrap (a1 + i10))) default)) = N0 := by simpa using hN
    refine D_end (by kernel_rfl) ?_
    refine E_has (l := [(0, (.msl 2 lo0p 0 (List.length (List.set (List.set data0 (Int.toNat (IntKind.i64.wrap (a1 + i10))) (List.getD data0 (Int.toNat (IntKind.i64.wrap (b2 + i10))) default)) (Int.toNat (IntKind.i64.wrap (b2 + i10))) (List.getD data0 (Int.toNat (IntKind.i64.wrap (a1 + i10))) default))))), (1, (eInt .i64 a1)), (2, (eInt .i64 b2)), (3, (eInt .i64 n3)), (10, (eInt .i64 i10))]) ⟨[(0, (.msl 2 lo0p 0 (List.length data0))), (1, (eInt .i64 a1)), (2, (eInt .i64 b2)), (3, (eInt .i64 n3)), (10, (eInt .i64 i10))], by kernel_rfl, rfl, ⟨SubV.eq (by simp []), SubV.refl _, SubV.refl _, SubV.refl _, SubV.refl _, trivial⟩⟩ ?_
    refine E_done (blockA_normal (thenA_normal (?_)))
    refine A_cl (C_region ttOk (n := 3) (by kernel_rfl) (by kernel_rfl) ?_)
    refine R_all (Ds := []) (by kernel_rfl) trivial ?_
    refine E_has (l := [(0, (.msl 2 lo0p 0 (List.length (List.set (List.set data0 (Int.toNat (IntKind.i64.wrap (a1 + i10))) (List.getD data0 (Int.toNat (IntKind.i64.wrap (b2 + i10))) default)) (Int.toNat (IntKind.i64.wrap (b2 + i10))) (List.getD data0 (Int.toNat (IntKind.i64.wrap (a1 + i10))) default))))), (1, (eInt .i64 a1)), (2, (eInt .i64 b2)), (3, (eInt .i64 n3)), (10, (eInt .i64 (IntKind.i64.wrap (i10 + (1 : Int)))))]) (.eq (by kernel_rfl)) ?_
    exact E_done (thenA_normal (⟨rfl, (List.set (List.set data0 (Int.toNat (IntKind.i64.wrap (a1 + i10))) (List.getD data0 (Int.toNat (IntKind.i64.wrap (b2 + i10))) default)) (Int.toNat (IntKind.i64.wrap (b2 + i10))) (List.getD data0 (Int.toNat (IntKind.i64.wrap (a1 + i10))) default), IntKind.i64.wrap (i10 + (1 : Int))), (Option.some.inj h1).symm, .eq (by kernel_rfl), hO, hN⟩))
  · replace h1 := condF hc5 h1
    refine A_cl (C_exit (id := 0) (by kernel_rfl) (by kernel_rfl) ?_)
    refine E_has (l := [(0, (.msl 2 lo0p 0 (List.length data0)))]) (.eq (by kernel_rfl)) ?_
    obtain rfl := Option.some.inj h1
    obtain rfl : _ = rr0 := ho0
    replace h0 : some data0 = some r := h0
    obtain rfl := Option.some.inj h0
    exact E_done (thenA_exit (thenA_exit (blockA_hit (Q_end (x := (.tup [])) (by kernel_rfl) (SubV.refl _) ⟨rfl, hO.ext, hO.at 0 (by kernel_rfl), by simp only [List.length_map]; exact hN.trans hN0⟩))))

theorem w_slices_rotateCmpFunc_api_Jump (lo0p : Nat) (data0 : (List api_Jump)) (a1 : Int) (m2 : Int) (b3 : Int) (cmp4_f : Nat) (cmp4_a cmp4_c : List V) (cmp4 : api_Jump → api_Jump → Option Int) (cmp4_h : ∀ a0 a1 r, cmp4 a0 a1 = some r → Fine Try.prog cmp4_f (cmp4_a ++ [(e_api_Jump a0), (e_api_Jump a1)] ++ cmp4_c) (eInt .i64 r)) (r : List api_Jump) (h0 : s_slices_rotateCmpFunc_api_Jump data0 a1 m2 b3 cmp4 = some r) : FineI Try.prog 54 lo0p 2 (List.map e_api_Jump data0) (List.map e_api_Jump r) [(.msl 2 lo0p 0 (List.length data0)), (eInt .i64 a1), (eInt .i64 m2), (eInt .i64 b3), (.fn (.func cmp4_f) cmp4_a cmp4_c)] (.tup []) := by
  intro H0 hl0
  refine F_walk Try.func54 (by kernel_rfl) (by kernel_rfl) (by kernel_rfl) ?_
  have hO := Owns.start1 hl0
  clear hl0
  obtain ⟨N0, hN0⟩ : ∃ n, n = List.length data0 := ⟨_, rfl⟩
  have hN : List.length data0 = N0 := hN0.symm
  unfold s_slices_rotateCmpFunc_api_Jump at h0
  refine C_seq (by kernel_rfl) ?_
  refine A_cl (C_region ttOk (n := 4) (by kernel_rfl) (by kernel_rfl) ?_)
  refine R_all (Ds := []) (by kernel_rfl) trivial ?_
  refine E_has (l := [(0, (.msl 2 lo0p 0 (List.length data0))), (2, (eInt .i64 m2)), (3, (eInt .i64 b3)), (4, (.fn (.func cmp4_f) cmp4_a cmp4_c)), (10, (eInt .i64 (IntKind.i64.wrap (m2 - a1))))]) (.eq (by kernel_rfl)) ?_
  refine E_done (thenA_normal (?_))
  refine C_seq (by kernel_rfl) ?_
  refine A_cl (C_region ttOk (n := 4) (by kernel_rfl) (by kernel_rfl) ?_)
  refine R_all (Ds := []) (by kernel_rfl) trivial ?_
  refine E_has (l := [(0, (.msl 2 lo0p 0 (List.length data0))), (2, (eInt .i64 m2)), (4, (.fn (.func cmp4_f) cmp4_a cmp4_c)), (10, (eInt .i64 (IntKind.i64.wrap (m2 - a1)))), (11, (eInt .i64 (IntKind.i64.wrap (b3 - m2))))]) (.eq (by kernel_rfl)) ?_
  refine E_done (thenA_normal (?_))
  refine C_seqJ (by kernel_rfl) (fun T H => ∃ data0 : List api_Jump, ∃ i10 : Int, Has T [(0, (.msl 2 lo0p 0 (List.length data0))), (2, (eInt .i64 m2)), (4, (.fn (.func cmp4_f) cmp4_a cmp4_c)), (10, (eInt .i64 i10))] ∧ Owns ⟨H0, [lo0p]⟩ H [(lo0p, 2, List.map e_api_Jump data0)] ∧ List.length data0 = N0 ∧ slices_rotateCmpFunc_api_Jump_j1 cmp4 data0 m2 i10 = some r) ?_ ?_
  · clear hO hN h0
    rintro T H ⟨data0, i10, hT, hO, hN, h0⟩
    refine C_has hT ?_
    clear hT
    unfold slices_rotateCmpFunc_api_Jump_j1 at h0
    refine A_cl (C_region ttOk (n := 8) (by kernel_rfl) (by kernel_rfl) ?_)
    refine R_pure 7 (by kernel_rfl) (Ds := []) (by kernel_rfl) trivial ?_
    obtain ⟨x1, hx2, h0⟩ := bindE h0
    refine R_callI (L' := [(lo0p, 2, List.map e_api_Jump x1)]) 0 lo0p 2 (List.map e_api_Jump data0) (List.map e_api_Jump x1) 55 [(.msl 2 lo0p 0 (List.length data0)), (eInt .i64 (IntKind.i64.wrap (m2 - i10))), (eInt .i64 m2), (eInt .i64 i10), (.fn (.func cmp4_f) cmp4_a cmp4_c)] (.tup []) (by kernel_rfl) (by kernel_rfl) (w_slices_swapRangeCmpFunc_api_Jump lo0p data0 (IntKind.i64.wrap (m2 - i10)) m2 i10 cmp4_f cmp4_a cmp4_c cmp4 cmp4_h _ hx2) hO (by kernel_rfl) (by kernel_rfl) ?_
    intro H hO hl3
    simp only [List.length_map] at hl3
    replace hN := hl3.trans hN
    refine R_end (by kernel_rfl) ?_
    refine E_has (l := [(0, (.msl 2 lo0p 0 (List.length x1)))]) ⟨[(0, (.msl 2 lo0p 0 (List.length data0)))], by kernel_rfl, rfl, ⟨SubV.eq (by simp [hl3]), trivial⟩⟩ ?_
    obtain rfl := Option.some.inj h0
    exact E_done (Q_end (x := (.tup [])) (by kernel_rfl) (SubV.refl _) ⟨rfl, hO.ext, hO.at 0 (by kernel_rfl), by simp only [List.length_map]; exact hN.trans hN0⟩)
  · refine C_block (id := 0) (by kernel_rfl) (by kernel_rfl) ?_
    refine C_has (l := [(0, (.msl 2 lo0p 0 (List.length data0))), (2, (eInt .i64 m2)), (4, (.fn (.func cmp4_f) cmp4_a cmp4_c)), (10, (eInt .i64 (IntKind.i64.wrap (m2 - a1)))), (11, (eInt .i64 (IntKind.i64.wrap (b3 - m2))))]) (.eq (by kernel_rfl)) ?_
    refine C_cut (fun T H => ∃ data0 : List api_Jump, ∃ i10 : Int, ∃ j11 : Int, Has T [(0, (.msl 2 lo0p 0 (List.length data0))), (2, (eInt .i64 m2)), (4, (.fn (.func cmp4_f) cmp4_a cmp4_c)), (10, (eInt .i64 i10)), (11, (eInt .i64 j11))] ∧ Owns ⟨H0, [lo0p]⟩ H [(lo0p, 2, List.map e_api_Jump data0)] ∧ List.length data0 = N0 ∧ slices_rotateCmpFunc_api_Jump_h2 cmp4 data0 m2 i10 j11 = some r) ?_ ⟨data0, IntKind.i64.wrap (m2 - a1), IntKind.i64.wrap (b3 - m2), .eq (by kernel_rfl), hO, hN, h0⟩
    clear hO hN h0
    rintro T H ⟨data0, i10, j11, hT, hO, hN, h0⟩
    refine C_has hT ?_
    clear hT
    unfold slices_rotateCmpFunc_api_Jump_h2 at h0
    obtain ⟨rr0, hl0, h0⟩ := bindE h0
    refine C_loopS (by kernel_rfl) (fun (s : List api_Jump × Int × Int) T H => Has T [(0, (.msl 2 lo0p 0 (List.length s.1))), (2, (eInt .i64 m2)), (4, (.fn (.func cmp4_f) cmp4_a cmp4_c)), (10, (eInt .i64 s.2.1)), (11, (eInt .i64 s.2.2))] ∧ Owns ⟨H0, [lo0p]⟩ H [(lo0p, 2, List.map e_api_Jump s.1)] ∧ List.length s.1 = N0) hl0 ⟨.eq (by kernel_rfl), hO, hN⟩ ?_
    clear hO hN
    rintro k0 s out1 T H ⟨hT, hO, hN⟩ h1 ho0
    obtain ⟨data0, i10, j11⟩ := s
    replace h1 : slices_rotateCmpFunc_api_Jump_l2 cmp4 m2 data0 i10 j11 = some out1 := h1
    refine C_has (l := [(0, (.msl 2 lo0p 0 (List.length data0))), (2, (eInt .i64 m2)), (4, (.fn (.func cmp4_f) cmp4_a cmp4_c)), (10, (eInt .i64 i10)), (11, (eInt .i64 j11))]) hT ?_
    clear hT
    unfold slices_rotateCmpFunc_api_Jump_l2 at h1
    refine C_seq (by kernel_rfl) ?_
    refine C_seq (by kernel_rfl) ?_
    refine A_cl (C_region ttOk (n := 3) (by kernel_rfl) (by kernel_rfl) ?_)
    refine R_all (Ds := []) (by kernel_rfl) trivial ?_
    refine E_has (l := [(0, (.msl 2 lo0p 0 (List.length data0))), (2, (eInt .i64 m2)), (4, (.fn (.func cmp4_f) cmp4_a cmp4_c)), (10, (eInt .i64 i10)), (11, (eInt .i64 j11)), (20, (eBool (!decide (i10 = j11))))]) (.eq (by kernel_rfl)) ?_
    refine E_done (thenA_normal (?_))
    refine C_cond (b := !decide (i10 = j11)) (by kernel_rfl) (by kernel_rfl) (fun hc11 => ?_) (fun hc11 => ?_)
    · replace h1 := condT hc11 h1
      refine A_cl (C_skip (by kernel_rfl) ?_)
      refine E_has (l := [(0, (.msl 2 lo0p 0 (List.length data0))), (2, (eInt .i64 m2)), (4, (.fn (.func cmp4_f) cmp4_a cmp4_c)), (10, (eInt .i64 i10)), (11, (eInt .i64 j11))]) (.eq (by kernel_rfl)) ?_
      refine E_done (thenA_normal (?_))
      refine C_block (id := 1) (by kernel_rfl) (by kernel_rfl) ?_
      refine C_seq (by kernel_rfl) ?_
      refine A_cl (C_region ttOk (n := 3) (by kernel_rfl) (by kernel_rfl) ?_)
      refine R_all (Ds := []) (by kernel_rfl) trivial ?_
      refine E_has (l := [(0, (.msl 2 lo0p 0 (List.length data0))), (2, (eInt .i64 m2)), (4, (.fn (.func cmp4_f) cmp4_a cmp4_c)), (10, (eInt .i64 i10)), (11, (eInt .i64 j11)), (23, (eBool (decide (j11 < i10))))]) (.eq (by kernel_rfl)) ?_
      refine E_done (thenA_normal (?_))
      refine C_cond (b := decide (j11 < i10)) (by kernel_rfl) (by kernel_rfl) (fun hc10 => ?_) (fun hc10 => ?_)
      · replace h1 := condT hc10 h1
        refine C_seq (by kernel_rfl) ?_
        refine A_cl (C_region ttOk (n := 8) (by kernel_rfl) (by kernel_rfl) ?_)
        refine R_pure 7 (by kernel_rfl) (Ds := []) (by kernel_rfl) trivial ?_
        obtain ⟨x4, hx5, h1⟩ := bindE h1
        refine R_callI (L' := [(lo0p, 2, List.map e_api_Jump x4)]) 0 lo0p 2 (List.map e_api_Jump data0) (List.map e_api_Jump x4) 55 [(.msl 2 lo0p 0 (List.length data0)), (eInt .i64 (IntKind.i64.wrap (m2 - i10))), (eInt .i64 m2), (eInt .i64 j11), (.fn (.func cmp4_f) cmp4_a cmp4_c)] (.tup []) (by kernel_rfl) (by kernel_rfl) (w_slices_swapRangeCmpFunc_api_Jump lo0p data0 (IntKind.i64.wrap (m2 - i10)) m2 j11 cmp4_f cmp4_a cmp4_c cmp4 cmp4_h _ hx5) hO (by kernel_rfl) (by kernel_rfl) ?_
        intro H hO hl6
        simp only [List.length_map] at hl6
        replace hN := hl6.trans hN
        refine R_end (by kernel_rfl) ?_
        refine E_has (l := [(0, (.msl 2 lo0p 0 (List.length x4))), (2, (eInt .i64 m2)), (4, (.fn (.func cmp4_f) cmp4_a cmp4_c)), (10, (eInt .i64 i10)), (11, (eInt .i64 j11))]) ⟨[(0, (.msl 2 lo0p 0 (List.length data0))), (2, (eInt .i64 m2)), (4, (.fn (.func cmp4_f) cmp4_a cmp4_c)), (10, (eInt .i64 i10)), (11, (eInt .i64 j11))], by kernel_rfl, rfl, ⟨SubV.eq (by simp [hl6]), SubV.refl _, SubV.refl _, SubV.refl _, SubV.refl _, trivial⟩⟩ ?_
        refine E_done (thenA_normal (?_))
        refine A_cl (C_region ttOk (n := 4) (by kernel_rfl) (by kernel_rfl) ?_)
        refine R_all (Ds := []) (by kernel_rfl) trivial ?_
        refine E_has (l := [(0, (.msl 2 lo0p 0 (List.length x4))), (2, (eInt .i64 m2)), (4, (.fn (.func cmp4_f) cmp4_a cmp4_c)), (10, (eInt .i64 (IntKind.i64.wrap (i10 - j11)))), (11, (eInt .i64 j11))]) (.eq (by kernel_rfl)) ?_
        exact E_done (blockA_normal (thenA_normal (⟨rfl, (x4, IntKind.i64.wrap (i10 - j11), j11), (Option.some.inj h1).symm, .eq (by kernel_rfl), hO, hN⟩)))
      · replace h1 := condF hc10 h1
        refine C_seq (by kernel_rfl) ?_
        refine A_cl (C_region ttOk (n := 12) (by kernel_rfl) (by kernel_rfl) ?_)
        refine R_pure 11 (by kernel_rfl) (Ds := []) (by kernel_rfl) trivial ?_
        obtain ⟨x7, hx8, h1⟩ := bindE h1
        refine R_callI (L' := [(lo0p, 2, List.map e_api_Jump x7)]) 0 lo0p 2 (List.map e_api_Jump data0) (List.map e_api_Jump x7) 55 [(.msl 2 lo0p 0 (List.length data0)), (eInt .i64 (IntKind.i64.wrap (m2 - i10))), (eInt .i64 (IntKind.i64.wrap ((IntKind.i64.wrap (m2 + j11)) - i10))), (eInt .i64 i10), (.fn (.func cmp4_f) cmp4_a cmp4_c)] (.tup []) (by kernel_rfl) (by kernel_rfl) (w_slices_swapRangeCmpFunc_api_Jump lo0p data0 (IntKind.i64.wrap (m2 - i10)) (IntKind.i64.wrap ((IntKind.i64.wrap (m2 + j11)) - i10)) i10 cmp4_f cmp4_a cmp4_c cmp4 cmp4_h _ hx8) hO (by kernel_rfl) (by kernel_rfl) ?_
        intro H hO hl9
        simp only [List.length_map] at hl9
        replace hN := hl9.trans hN
        refine R_end (by kernel_rfl) ?_
        refine E_has (l := [(0, (.msl 2 lo0p 0 (List.length x7))), (2, (eInt .i64 m2)), (4, (.fn (.func cmp4_f) cmp4_a cmp4_c)), (10, (eInt .i64 i10)), (11, (eInt .i64 j11))]) ⟨[(0, (.msl 2 lo0p 0 (List.length data0))), (2, (eInt .i64 m2)), (4, (.fn (.func cmp4_f) cmp4_a cmp4_c)), (10, (eInt .i64 i10)), (11, (eInt .i64 j11))], by kernel_rfl, rfl, ⟨SubV.eq (by simp [hl9]), SubV.refl _, SubV.refl _, SubV.refl _, SubV.refl _, trivial⟩⟩ ?_
        refine E_done (thenA_normal (?_))
        refine A_cl (C_region ttOk (n := 4) (by kernel_rfl) (by kernel_rfl) ?_)
        refine R_all (Ds := []) (by kernel_rfl) trivial ?_
        refine E_has (l := [(0, (.msl 2 lo0p 0 (List.length x7))), (2, (eInt .i64 m2)), (4, (.fn (.func cmp4_f) cmp4_a cmp4_c)), (10, (eInt .i64 i10)), (11, (eInt .i64 (IntKind.i64.wrap (j11 - i10))))]) (.eq (by kernel_rfl)) ?_
        exact E_done (blockA_normal (thenA_normal (⟨rfl, (x7, i10, IntKind.i64.wrap (j11 - i10)), (Option.some.inj h1).symm, .eq (by kernel_rfl), hO, hN⟩)))
    · replace h1 := condF hc11 h1
      refine A_cl (C_exit (id := 0) (by kernel_rfl) (by kernel_rfl) ?_)
      refine E_has (l := [(0, (.msl 2 lo0p 0 (List.length data0))), (2, (eInt .i64 m2)), (4, (.fn (.func cmp4_f) cmp4_a cmp4_c)), (10, (eInt .i64 i10))]) (.eq (by kernel_rfl)) ?_
      obtain rfl := Option.some.inj h1
      obtain rfl : _ = rr0 := ho0
      replace h0 : slices_rotateCmpFunc_api_Jump_j1 cmp4 data0 m2 i10 = some r := h0
      exact E_done (thenA_exit (thenA_exit (blockA_hit (thenA_normal (⟨rfl, data0, i10, .eq (by kernel_rfl), hO, hN, h0⟩)))))

theorem w_slices_symMergeCmpFunc_api_Jump_step (cmp4_f : Nat) (cmp4_a cmp4_c : List V) (cmp4 : api_Jump → api_Jump → Option Int) (cmp4_h : ∀ a0 a1 r, cmp4 a0 a1 = some r → Fine Try.prog cmp4_f (cmp4_a ++ [(e_api_Jump a0), (e_api_Jump a1)] ++ cmp4_c) (eInt .i64 r)) (rec : (List api_Jump) → Int → Int → Int → Option (List api_Jump)) (ih : ∀ (lo0p : Nat) (data0 : (List api_Jump)) (a1 : Int) (m2 : Int) (b3 : Int) (r : List api_Jump), rec data0 a1 m2 b3 = some r → FineI Try.prog 53 lo0p 2 (List.map e_api_Jump data0) (List.map e_api_Jump r) [(.msl 2 lo0p 0 (List.length data0)), (eInt .i64 a1), (eInt .i64 m2), (eInt .i64 b3), (.fn (.func cmp4_f) cmp4_a cmp4_c)] (.tup [])) (lo0p : Nat) (data0 : (List api_Jump)) (a1 : Int) (m2 : Int) (b3 : Int) (r : List api_Jump) (h0 : slices_symMergeCmpFunc_api_Jump_step cmp4 rec data0 a1 m2 b3 = some r) : FineI Try.prog 53 lo0p 2 (List.map e_api_Jump data0) (List.map e_api_Jump r) [(.msl 2 lo0p 0 (List.length data0)), (eInt .i64 a1), (eInt .i64 m2), (eInt .i64 b3), (.fn (.func cmp4_f) cmp4_a cmp4_c)] (.tup []) := by
  intro H0 hl0
  refine F_walk Try.func53 (by kernel_rfl) (by kernel_rfl) (by kernel_rfl) ?_
  have hO := Owns.start1 hl0
  clear hl0
  obtain ⟨N0, hN0⟩ : ∃ n, n = List.length data0 := ⟨_, rfl⟩
  have hN : List.length data0 = N0 := hN0.symm
  unfold slices_symMergeCmpFunc_api_Jump_step at h0
  refine C_seqJ (by kernel_rfl) (fun T H => ∃ data0 : List api_Jump, Has T [(0, (.msl 2 lo0p 0 (List.length data0))), (1, (eInt .i64 a1)), (2, (eInt .i64 m2)), (3, (eInt .i64 b3)), (4, (.fn (.func cmp4_f) cmp4_a cmp4_c))] ∧ Owns ⟨H0, [lo0p]⟩ H [(lo0p, 2, List.map e_api_Jump data0)] ∧ List.length data0 = N0 ∧ slices_symMergeCmpFunc_api_Jump_j1 cmp4 rec data0 a1 m2 b3 = some r) ?_ ?_
  · clear hO hN h0
    rintro T H ⟨data0, hT, hO, hN, h0⟩
    refine C_has hT ?_
    clear hT
    unfold slices_symMergeCmpFunc_api_Jump_j1 at h0
    refine C_seqJ (by kernel_rfl) (fun T H => ∃ data0 : List api_Jump, Has T [(0, (.msl 2 lo0p 0 (List.length data0))), (1, (eInt .i64 a1)), (2, (eInt .i64 m2)), (3, (eInt .i64 b3)), (4, (.fn (.func cmp4_f) cmp4_a cmp4_c))] ∧ Owns ⟨H0, [lo0p]⟩ H [(lo0p, 2, List.map e_api_Jump data0)] ∧ List.length data0 = N0 ∧ slices_symMergeCmpFunc_api_Jump_j2 cmp4 rec data0 a1 m2 b3 = some r) ?_ ?_
    · clear hO hN h0
      rintro T H ⟨data0, hT, hO, hN, h0⟩
      refine C_has hT ?_
      clear hT
      unfold slices_symMergeCmpFunc_api_Jump_j2 at h0
      refine C_seq (by kernel_rfl) ?_
      refine A_cl (C_region ttOk (n := 7) (by kernel_rfl) (by kernel_rfl) ?_)
      obtain ⟨c1, h0⟩ := asrtE h0
      refine R_all (Ds := [0 ≤ (1 : Int)]) (by kernel_rfl) ⟨c1, trivial⟩ ?_
      refine E_has (l := [(0, (.msl 2 lo0p 0 (List.length data0))), (1, (eInt .i64 a1)), (2, (eInt .i64 m2)), (3, (eInt .i64 b3)), (4, (.fn (.func cmp4_f) cmp4_a cmp4_c)), (18, (eInt .i64 (IntKind.i64.wrap (Int.fdiv (IntKind.u64.wrap (IntKind.i64.wrap (a1 + b3))) (2 ^ (min (Int.toNat (1 : Int)) 64))))))]) (.eq (by kernel_rfl)) ?_
      refine E_done (thenA_normal (?_))
      refine C_seq (by kernel_rfl) ?_
      refine A_cl (C_region ttOk (n := 4) (by kernel_rfl) (by kernel_rfl) ?_)
      refine R_all (Ds := []) (by kernel_rfl) trivial ?_
      refine E_has (l := [(0, (.msl 2 lo0p 0 (List.length data0))), (1, (eInt .i64 a1)), (2, (eInt .i64 m2)), (3, (eInt .i64 b3)), (4, (.fn (.func cmp4_f) cmp4_a cmp4_c)), (18, (eInt .i64 (IntKind.i64.wrap (Int.fdiv (IntKind.u64.wrap (IntKind.i64.wrap (a1 + b3))) (2 ^ (min (Int.toNat (1 : Int)) 64)))))), (19, (eInt .i64 (IntKind.i64.wrap ((IntKind.i64.wrap (Int.fdiv (IntKind.u64.wrap (IntKind.i64.wrap (a1 + b3))) (2 ^ (min (Int.toNat (1 : Int)) 64)))) + m2))))]) (.eq (by kernel_rfl)) ?_
      refine E_done (thenA_normal (?_))
      refine C_seq (by kernel_rfl) ?_
      refine A_cl (C_region ttOk (n := 2) (by kernel_rfl) (by kernel_rfl) ?_)
      refine R_all (Ds := []) (by kernel_rfl) trivial ?_
      refine E_has (l := [(0, (.msl 2 lo0p 0 (List.length data0))), (1, (eInt .i64 a1)), (2, (eInt .i64 m2)), (3, (eInt .i64 b3)), (4, (.fn (.func cmp4_f) cmp4_a cmp4_c)), (18, (eInt .i64 (IntKind.i64.wrap (Int.fdiv (IntKind.u64.wrap (IntKind.i64.wrap (a1 + b3))) (2 ^ (min (Int.toNat (1 : Int)) 64)))))), (19, (eInt .i64 (IntKind.i64.wrap ((IntKind.i64.wrap (Int.fdiv (IntKind.u64.wrap (IntKind.i64.wrap (a1 + b3))) (2 ^ (min (Int.toNat (1 : Int)) 64)))) + m2))))]) (.eq (by kernel_rfl)) ?_
      refine E_done (thenA_normal (?_))
      refine C_seqJ (by kernel_rfl) (fun T H => ∃ data0 : List api_Jump, ∃ mid18 : Int, ∃ n19 : Int, ∃ start20 : Int, ∃ r21 : Int, Has T [(0, (.msl 2 lo0p 0 (List.length data0))), (1, (eInt .i64 a1)), (2, (eInt .i64 m2)), (3, (eInt .i64 b3)), (4, (.fn (.func cmp4_f) cmp4_a cmp4_c)), (18, (eInt .i64 mid18)), (19, (eInt .i64 n19)), (20, (eInt .i64 start20)), (21, (eInt .i64 r21))] ∧ Owns ⟨H0, [lo0p]⟩ H [(lo0p, 2, List.map e_api_Jump data0)] ∧ List.length data0 = N0 ∧ slices_symMergeCmpFunc_api_Jump_j3 cmp4 rec data0 a1 m2 b3 mid18 n19 start20 r21 = some r) ?_ ?_
      · clear hO hN h0
        rintro T H ⟨data0, mid18, n19, start20, r21, hT, hO, hN, h0⟩
        refine C_has hT ?_
        clear hT
        unfold slices_symMergeCmpFunc_api_Jump_j3 at h0
        refine C_seq (by kernel_rfl) ?_
        refine A_cl (C_region ttOk (n := 3) (by kernel_rfl) (by kernel_rfl) ?_)
        refine R_all (Ds := []) (by kernel_rfl) trivial ?_
        refine E_has (l := [(0, (.msl 2 lo0p 0 (List.length data0))), (1, (eInt .i64 a1)), (2, (eInt .i64 m2)), (3, (eInt .i64 b3)), (4, (.fn (.func cmp4_f) cmp4_a cmp4_c)), (18, (eInt .i64 mid18)), (19, (eInt .i64 n19)), (20, (eInt .i64 start20)), (21, (eInt .i64 r21)), (22, (eInt .i64 (IntKind.i64.wrap (n19 - (1 : Int)))))]) (.eq (by kernel_rfl)) ?_
        refine E_done (thenA_normal (?_))
        refine C_seqJ (by kernel_rfl) (fun T H => ∃ data0 : List api_Jump, ∃ start20 : Int, Has T [(0, (.msl 2 lo0p 0 (List.length data0))), (1, (eInt .i64 a1)), (2, (eInt .i64 m2)), (3, (eInt .i64 b3)), (4, (.fn (.func cmp4_f) cmp4_a cmp4_c)), (18, (eInt .i64 mid18)), (19, (eInt .i64 n19)), (20, (eInt .i64 start20))] ∧ Owns ⟨H0, [lo0p]⟩ H [(lo0p, 2, List.map e_api_Jump data0)] ∧ List.length data0 = N0 ∧ slices_symMergeCmpFunc_api_Jump_j4 cmp4 rec data0 a1 m2 b3 mid18 n19 start20 = some r) ?_ ?_
        · clear hO hN h0
          rintro T H ⟨data0, start20, hT, hO, hN, h0⟩
          refine C_has hT ?_
          clear hT
          unfold slices_symMergeCmpFunc_api_Jump_j4 at h0
          refine C_seq (by kernel_rfl) ?_
          refine A_cl (C_region ttOk (n := 4) (by kernel_rfl) (by kernel_rfl) ?_)
          refine R_all (Ds := []) (by kernel_rfl) trivial ?_
          refine E_has (l := [(0, (.msl 2 lo0p 0 (List.length data0))), (1, (eInt .i64 a1)), (2, (eInt .i64 m2)), (3, (eInt .i64 b3)), (4, (.fn (.func cmp4_f) cmp4_a cmp4_c)), (18, (eInt .i64 mid18)), (20, (eInt .i64 start20)), (24, (eInt .i64 (IntKind.i64.wrap (n19 - start20))))]) (.eq (by kernel_rfl)) ?_
          refine E_done (thenA_normal (?_))
          refine C_seqJ (by kernel_rfl) (fun T H => ∃ data0 : List api_Jump, ∃ end24 : Int, Has T [(0, (.msl 2 lo0p 0 (List.length data0))), (1, (eInt .i64 a1)), (3, (eInt .i64 b3)), (4, (.fn (.func cmp4_f) cmp4_a cmp4_c)), (18, (eInt .i64 mid18)), (20, (eInt .i64 start20)), (24, (eInt .i64 end24))] ∧ Owns ⟨H0, [lo0p]⟩ H [(lo0p, 2, List.map e_api_Jump data0)] ∧ List.length data0 = N0 ∧ slices_symMergeCmpFunc_api_Jump_j5 cmp4 rec data0 a1 b3 mid18 start20 end24 = some r) ?_ ?_
          · clear hO hN h0
            rintro T H ⟨data0, end24, hT, hO, hN, h0⟩
            refine C_has hT ?_
            clear hT
            unfold slices_symMergeCmpFunc_api_Jump_j5 at h0
            refine C_seqJ (by kernel_rfl) (fun T H => ∃ data0 : List api_Jump, Has T [(0, (.msl 2 lo0p 0 (List.length data0))), (3, (eInt .i64 b3)), (4, (.fn (.func cmp4_f) cmp4_a cmp4_c)), (18, (eInt .i64 mid18)), (24, (eInt .i64 end24))] ∧ Owns ⟨H0, [lo0p]⟩ H [(lo0p, 2, List.map e_api_Jump data0)] ∧ List.length data0 = N0 ∧ slices_symMergeCmpFunc_api_Jump_j6 cmp4 rec data0 b3 mid18 end24 = some r) ?_ ?_
            · clear hO hN h0
              rintro T H ⟨data0, hT, hO, hN, h0⟩
              refine C_has hT ?_
              clear hT
              unfold slices_symMergeCmpFunc_api_Jump_j6 at h0
              refine C_seq (by kernel_rfl) ?_
              refine A_cl (C_region ttOk (n := 8) (by kernel_rfl) (by kernel_rfl) ?_)
              refine R_all (Ds := []) (by kernel_rfl) trivial ?_
              refine E_has (l := [(0, (.msl 2 lo0p 0 (List.length data0))), (3, (eInt .i64 b3)), (4, (.fn (.func cmp4_f) cmp4_a cmp4_c)), (18, (eInt .i64 mid18)), (24, (eInt .i64 end24)), (213, (eBool ((decide (mid18 < end24)) && (decide (end24 < b3)))))]) (.eq (by kernel_rfl)) ?_
              refine E_done (thenA_normal (?_))
              refine C_cond (b := (decide (mid18 < end24)) && (decide (end24 < b3))) (by kernel_rfl) (by kernel_rfl) (fun hc5 => ?_) (fun hc5 => ?_)
              · replace h0 := condT hc5 h0
                refine A_cl (C_region ttOk (n := 6) (by kernel_rfl) (by kernel_rfl) ?_)
                refine R_pure 5 (by kernel_rfl) (Ds := []) (by kernel_rfl) trivial ?_
                obtain ⟨x2, hx3, h0⟩ := bindE h0
                refine R_callI (L' := [(lo0p, 2, List.map e_api_Jump x2)]) 0 lo0p 2 (List.map e_api_Jump data0) (List.map e_api_Jump x2) 53 [(.msl 2 lo0p 0 (List.length data0)), (eInt .i64 mid18), (eInt .i64 end24), (eInt .i64 b3), (.fn (.func cmp4_f) cmp4_a cmp4_c)] (.tup []) (by kernel_rfl) (by kernel_rfl) (ih lo0p data0 mid18 end24 b3 _ hx3) hO (by kernel_rfl) (by kernel_rfl) ?_
                intro H hO hl4
                simp only [List.length_map] at hl4
                replace hN := hl4.trans hN
                refine R_end (by kernel_rfl) ?_
                refine E_has (l := [(0, (.msl 2 lo0p 0 (List.length x2)))]) ⟨[(0, (.msl 2 lo0p 0 (List.length data0)))], by kernel_rfl, rfl, ⟨SubV.eq (by simp [hl4]), trivial⟩⟩ ?_
                obtain rfl := Option.some.inj h0
                exact E_done (Q_end (x := (.tup [])) (by kernel_rfl) (SubV.refl _) ⟨rfl, hO.ext, hO.at 0 (by kernel_rfl), by simp only [List.length_map]; exact hN.trans hN0⟩)
              · replace h0 := condF hc5 h0
                refine A_cl (C_skip (by kernel_rfl) ?_)
                refine E_has (l := [(0, (.msl 2 lo0p 0 (List.length data0)))]) (.eq (by kernel_rfl)) ?_
                obtain rfl := Option.some.inj h0
                exact E_done (Q_end (x := (.tup [])) (by kernel_rfl) (SubV.refl _) ⟨rfl, hO.ext, hO.at 0 (by kernel_rfl), by simp only [List.length_map]; exact hN.trans hN0⟩)
            · refine C_seq (by kernel_rfl) ?_
              refine A_cl (C_region ttOk (n := 8) (by kernel_rfl) (by kernel_rfl) ?_)
              refine R_all (Ds := []) (by kernel_rfl) trivial ?_
              refine E_has (l := [(0, (.msl 2 lo0p 0 (List.length data0))), (1, (eInt .i64 a1)), (3, (eInt .i64 b3)), (4, (.fn (.func cmp4_f) cmp4_a cmp4_c)), (18, (eInt .i64 mid18)), (20, (eInt .i64 start20)), (24, (eInt .i64 end24)), (199, (eBool ((decide (a1 < start20)) && (decide (start20 < mid18)))))]) (.eq (by kernel_rfl)) ?_
              refine E_done (thenA_normal (?_))
              refine C_cond (b := (decide (a1 < start20)) && (decide (start20 < mid18))) (by kernel_rfl) (by kernel_rfl) (fun hc9 => ?_) (fun hc9 => ?_)
              · replace h0 := condT hc9 h0
                refine A_cl (C_region ttOk (n := 6) (by kernel_rfl) (by kernel_rfl) ?_)
                refine R_pure 5 (by kernel_rfl) (Ds := []) (by kernel_rfl) trivial ?_
                obtain ⟨x6, hx7, h0⟩ := bindE h0
                refine R_callI (L' := [(lo0p, 2, List.map e_api_Jump x6)]) 0 lo0p 2 (List.map e_api_Jump data0) (List.map e_api_Jump x6) 53 [(.msl 2 lo0p 0 (List.length data0)), (eInt .i64 a1), (eInt .i64 start20), (eInt .i64 mid18), (.fn (.func cmp4_f) cmp4_a cmp4_c)] (.tup []) (by kernel_rfl) (by kernel_rfl) (ih lo0p data0 a1 start20 mid18 _ hx7) hO (by kernel_rfl) (by kernel_rfl) ?_
                intro H hO hl8
                simp only [List.length_map] at hl8
                replace hN := hl8.trans hN
                refine R_end (by kernel_rfl) ?_
                refine E_has (l := [(0, (.msl 2 lo0p 0 (List.length x6))), (3, (eInt .i64 b3)), (4, (.fn (.func cmp4_f) cmp4_a cmp4_c)), (18, (eInt .i64 mid18)), (24, (eInt .i64 end24))]) ⟨[(0, (.msl 2 lo0p 0 (List.length data0))), (3, (eInt .i64 b3)), (4, (.fn (.func cmp4_f) cmp4_a cmp4_c)), (18, (eInt .i64 mid18)), (24, (eInt .i64 end24))], by kernel_rfl, rfl, ⟨SubV.eq (by simp [hl8]), SubV.refl _, SubV.refl _, SubV.refl _, SubV.refl _, trivial⟩⟩ ?_
                exact E_done (thenA_normal (⟨rfl, x6, .eq (by kernel_rfl), hO, hN, h0⟩))
              · replace h0 := condF hc9 h0
                refine A_cl (C_skip (by kernel_rfl) ?_)
                refine E_has (l := [(0, (.msl 2 lo0p 0 (List.length data0))), (3, (eInt .i64 b3)), (4, (.fn (.func cmp4_f) cmp4_a cmp4_c)), (18, (eInt .i64 mid18)), (24, (eInt .i64 end24))]) (.eq (by kernel_rfl)) ?_
                exact E_done (thenA_normal (⟨rfl, data0, .eq (by kernel_rfl), hO, hN, h0⟩))
          · refine C_seq (by kernel_rfl) ?_
            refine A_cl (C_region ttOk (n := 8) (by kernel_rfl) (by kernel_rfl) ?_)
            refine R_all (Ds := []) (by kernel_rfl) trivial ?_
            refine E_has (l := [(0, (.msl 2 lo0p 0 (List.length data0))), (1, (eInt .i64 a1)), (2, (eInt .i64 m2)), (3, (eInt .i64 b3)), (4, (.fn (.func cmp4_f) cmp4_a cmp4_c)), (18, (eInt .i64 mid18)), (20, (eInt .i64 start20)), (24, (eInt .i64 (IntKind.i64.wrap (n19 - start20)))), (185, (eBool ((decide (start20 < m2)) && (decide (m2 < (IntKind.i64.wrap (n19 - start20)))))))]) (.eq (by kernel_rfl)) ?_
            refine E_done (thenA_normal (?_))
            refine C_cond (b := (decide (start20 < m2)) && (decide (m2 < (IntKind.i64.wrap (n19 - start20))))) (by kernel_rfl) (by kernel_rfl) (fun hc13 => ?_) (fun hc13 => ?_)
            · replace h0 := condT hc13 h0
              refine A_cl (C_region ttOk (n := 6) (by kernel_rfl) (by kernel_rfl) ?_)
              refine R_pure 5 (by kernel_rfl) (Ds := []) (by kernel_rfl) trivial ?_
              obtain ⟨x10, hx11, h0⟩ := bindE h0
              refine R_callI (L' := [(lo0p, 2, List.map e_api_Jump x10)]) 0 lo0p 2 (List.map e_api_Jump data0) (List.map e_api_Jump x10) 54 [(.msl 2 lo0p 0 (List.length data0)), (eInt .i64 start20), (eInt .i64 m2), (eInt .i64 (IntKind.i64.wrap (n19 - start20))), (.fn (.func cmp4_f) cmp4_a cmp4_c)] (.tup []) (by kernel_rfl) (by kernel_rfl) (w_slices_rotateCmpFunc_api_Jump lo0p data0 start20 m2 (IntKind.i64.wrap (n19 - start20)) cmp4_f cmp4_a cmp4_c cmp4 cmp4_h _ hx11) hO (by kernel_rfl) (by kernel_rfl) ?_
              intro H hO hl12
              simp only [List.length_map] at hl12
              replace hN := hl12.trans hN
              refine R_end (by kernel_rfl) ?_
              refine E_has (l := [(0, (.msl 2 lo0p 0 (List.length x10))), (1, (eInt .i64 a1)), (3, (eInt .i64 b3)), (4, (.fn (.func cmp4_f) cmp4_a cmp4_c)), (18, (eInt .i64 mid18)), (20, (eInt .i64 start20)), (24, (eInt .i64 (IntKind.i64.wrap (n19 - start20))))]) ⟨[(0, (.msl 2 lo0p 0 (List.length data0))), (1, (eInt .i64 a1)), (3, (eInt .i64 b3)), (4, (.fn (.func cmp4_f) cmp4_a cmp4_c)), (18, (eInt .i64 mid18)), (20, (eInt .i64 start20)), (24, (eInt .i64 (IntKind.i64.wrap (n19 - start20))))], by kernel_rfl, rfl, ⟨SubV.eq (by simp [hl12]), SubV.refl _, SubV.refl _, SubV.refl _, SubV.refl _, SubV.refl _, SubV.refl _, trivial⟩⟩ ?_
              exact E_done (thenA_normal (⟨rfl, x10, IntKind.i64.wrap (n19 - start20), .eq (by kernel_rfl), hO, hN, h0⟩))
            · replace h0 := condF hc13 h0
              refine A_cl (C_skip (by kernel_rfl) ?_)
              refine E_has (l := [(0, (.msl 2 lo0p 0 (List.length data0))), (1, (eInt .i64 a1)), (3, (eInt .i64 b3)), (4, (.fn (.func cmp4_f) cmp4_a cmp4_c)), (18, (eInt .i64 mid18)), (20, (eInt .i64 start20)), (24, (eInt .i64 (IntKind.i64.wrap (n19 - start20))))]) (.eq (by kernel_rfl)) ?_
              exact E_done (thenA_normal (⟨rfl, data0, IntKind.i64.wrap (n19 - start20), .eq (by kernel_rfl), hO, hN, h0⟩))
        · refine C_block (id := 8) (by kernel_rfl) (by kernel_rfl) ?_
          refine C_has (l := [(0, (.msl 2 lo0p 0 (List.length data0))), (1, (eInt .i64 a1)), (2, (eInt .i64 m2)), (3, (eInt .i64 b3)), (4, (.fn (.func cmp4_f) cmp4_a cmp4_c)), (18, (eInt .i64 mid18)), (19, (eInt .i64 n19)), (20, (eInt .i64 start20)), (21, (eInt .i64 r21)), (22, (eInt .i64 (IntKind.i64.wrap (n19 - (1 : Int)))))]) (.eq (by kernel_rfl)) ?_
          refine C_cut (fun T H => ∃ data0 : List api_Jump, ∃ start20 : Int, ∃ r21 : Int, ∃ p22 : Int, Has T [(0, (.msl 2 lo0p 0 (List.length data0))), (1, (eInt .i64 a1)), (2, (eInt .i64 m2)), (3, (eInt .i64 b3)), (4, (.fn (.func cmp4_f) cmp4_a cmp4_c)), (18, (eInt .i64 mid18)), (19, (eInt .i64 n19)), (20, (eInt .i64 start20)), (21, (eInt .i64 r21)), (22, (eInt .i64 p22))] ∧ Owns ⟨H0, [lo0p]⟩ H [(lo0p, 2, List.map e_api_Jump data0)] ∧ List.length data0 = N0 ∧ slices_symMergeCmpFunc_api_Jump_h7 cmp4 rec data0 a1 m2 b3 mid18 n19 start20 r21 p22 = some r) ?_ ⟨data0, start20, r21, IntKind.i64.wrap (n19 - (1 : Int)), .eq (by kernel_rfl), hO, hN, h0⟩
          clear hO hN h0
          rintro T H ⟨data0, start20, r21, p22, hT, hO, hN, h0⟩
          refine C_has hT ?_
          clear hT
          unfold slices_symMergeCmpFunc_api_Jump_h7 at h0
          obtain ⟨rr0, hl0, h0⟩ := bindE h0
          refine C_loopS (by kernel_rfl) (fun (s : List api_Jump × Int × Int) T H => Has T [(0, (.msl 2 lo0p 0 (List.length s.1))), (1, (eInt .i64 a1)), (2, (eInt .i64 m2)), (3, (eInt .i64 b3)), (4, (.fn (.func cmp4_f) cmp4_a cmp4_c)), (18, (eInt .i64 mid18)), (19, (eInt .i64 n19)), (20, (eInt .i64 s.2.1)), (21, (eInt .i64 s.2.2)), (22, (eInt .i64 p22))] ∧ Owns ⟨H0, [lo0p]⟩ H [(lo0p, 2, List.map e_api_Jump s.1)] ∧ List.length s.1 = N0) hl0 ⟨.eq (by kernel_rfl), hO, hN⟩ ?_
          clear hO hN
          rintro k0 s out1 T H ⟨hT, hO, hN⟩ h1 ho0
          obtain ⟨data0, start20, r21⟩ := s
          replace h1 : slices_symMergeCmpFunc_api_Jump_l7 cmp4 rec a1 m2 b3 mid18 n19 p22 data0 start20 r21 = some out1 := h1
          refine C_has (l := [(0, (.msl 2 lo0p 0 (List.length data0))), (1, (eInt .i64 a1)), (2, (eInt .i64 m2)), (3, (eInt .i64 b3)), (4, (.fn (.func cmp4_f) cmp4_a cmp4_c)), (18, (eInt .i64 mid18)), (19, (eInt .i64 n19)), (20, (eInt .i64 start20)), (21, (eInt .i64 r21)), (22, (eInt .i64 p22))]) hT ?_
          clear hT
          unfold slices_symMergeCmpFunc_api_Jump_l7 at h1
          refine C_seq (by kernel_rfl) ?_
          refine C_seq (by kernel_rfl) ?_
          refine A_cl (C_region ttOk (n := 3) (by kernel_rfl) (by kernel_rfl) ?_)
          refine R_all (Ds := []) (by kernel_rfl) trivial ?_
          refine E_has (l := [(0, (.msl 2 lo0p 0 (List.length data0))), (1, (eInt .i64 a1)), (2, (eInt .i64 m2)), (3, (eInt .i64 b3)), (4, (.fn (.func cmp4_f) cmp4_a cmp4_c)), (18, (eInt .i64 mid18)), (19, (eInt .i64 n19)), (20, (eInt .i64 start20)), (21, (eInt .i64 r21)), (22, (eInt .i64 p22)), (151, (eBool (decide (start20 < r21))))]) (.eq (by kernel_rfl)) ?_
          refine E_done (thenA_normal (?_))
          refine C_cond (b := decide (start20 < r21)) (by kernel_rfl) (by kernel_rfl) (fun hc21 => ?_) (fun hc21 => ?_)
          · replace h1 := condT hc21 h1
            refine A_cl (C_skip (by kernel_rfl) ?_)
            refine E_has (l := [(0, (.msl 2 lo0p 0 (List.length data0))), (1, (eInt .i64 a1)), (2, (eInt .i64 m2)), (3, (eInt .i64 b3)), (4, (.fn (.func cmp4_f) cmp4_a cmp4_c)), (18, (eInt .i64 mid18)), (19, (eInt .i64 n19)), (20, (eInt .i64 start20)), (21, (eInt .i64 r21)), (22, (eInt .i64 p22))]) (.eq (by kernel_rfl)) ?_
            refine E_done (thenA_normal (?_))
            refine C_block (id := 9) (by kernel_rfl) (by kernel_rfl) ?_
            refine C_seq (by kernel_rfl) ?_
            refine A_cl (C_region ttOk (n := 7) (by kernel_rfl) (by kernel_rfl) ?_)
            obtain ⟨c14, h1⟩ := asrtE h1
            refine R_all (Ds := [0 ≤ (1 : Int)]) (by kernel_rfl) ⟨c14, trivial⟩ ?_
            refine E_has (l := [(0, (.msl 2 lo0p 0 (List.length data0))), (1, (eInt .i64 a1)), (2, (eInt .i64 m2)), (3, (eInt .i64 b3)), (4, (.fn (.func cmp4_f) cmp4_a cmp4_c)), (18, (eInt .i64 mid18)), (19, (eInt .i64 n19)), (20, (eInt .i64 start20)), (21, (eInt .i64 r21)), (22, (eInt .i64 p22)), (23, (eInt .i64 (IntKind.i64.wrap (Int.fdiv (IntKind.u64.wrap (IntKind.i64.wrap (start20 + r21))) (2 ^ (min (Int.toNat (1 : Int)) 64))))))]) (.eq (by kernel_rfl)) ?_
            refine E_done (thenA_normal (?_))
            refine C_seq (by kernel_rfl) ?_
            refine A_cl (C_draw ttOk (by kernel_rfl) (n := 14) (by kernel_rfl) (by kernel_rfl) (by kernel_rfl) ?_)
            obtain ⟨c15, h1⟩ := asrtE h1
            refine D_pure 6 (by kernel_rfl) (Ds := [0 ≤ (IntKind.i64.wrap (p22 - (IntKind.i64.wrap (Int.fdiv (IntKind.u64.wrap (IntKind.i64.wrap (start20 + r21))) (2 ^ (min (Int.toNat (1 : Int)) 64)))))) ∧ (IntKind.i64.wrap (p22 - (IntKind.i64.wrap (Int.fdiv (IntKind.u64.wrap (IntKind.i64.wrap (start20 + r21))) (2 ^ (min (Int.toNat (1 : Int)) 64)))))) < ((List.length data0 : Nat) : Int)]) (by kernel_rfl) ⟨c15, trivial⟩ ?_
            refine D_loadO 0 lo0p 2 (0 + Int.toNat (IntKind.i64.wrap (p22 - (IntKind.i64.wrap (Int.fdiv (IntKind.u64.wrap (IntKind.i64.wrap (start20 + r21))) (2 ^ (min (Int.toNat (1 : Int)) 64))))))) (e_api_Jump (List.getD data0 (Int.toNat (IntKind.i64.wrap (p22 - (IntKind.i64.wrap (Int.fdiv (IntKind.u64.wrap (IntKind.i64.wrap (start20 + r21))) (2 ^ (min (Int.toNat (1 : Int)) 64))))))) default)) (e_api_Jump (List.getD data0 (Int.toNat (IntKind.i64.wrap (p22 - (IntKind.i64.wrap (Int.fdiv (IntKind.u64.wrap (IntKind.i64.wrap (start20 + r21))) (2 ^ (min (Int.toNat (1 : Int)) 64))))))) default)) (List.map e_api_Jump data0) (by kernel_rfl) (by kernel_rfl) (by kernel_rfl) hO (by kernel_rfl) (ownGet c15) ?_
            obtain ⟨c16, h1⟩ := asrtE h1
            refine D_pure 10 (by kernel_rfl) (Ds := [0 ≤ (IntKind.i64.wrap (Int.fdiv (IntKind.u64.wrap (IntKind.i64.wrap (start20 + r21))) (2 ^ (min (Int.toNat (1 : Int)) 64)))) ∧ (IntKind.i64.wrap (Int.fdiv (IntKind.u64.wrap (IntKind.i64.wrap (start20 + r21))) (2 ^ (min (Int.toNat (1 : Int)) 64)))) < ((List.length data0 : Nat) : Int)]) (by kernel_rfl) ⟨c16, trivial⟩ ?_
            refine D_loadO 0 lo0p 2 (0 + Int.toNat (IntKind.i64.wrap (Int.fdiv (IntKind.u64.wrap (IntKind.i64.wrap (start20 + r21))) (2 ^ (min (Int.toNat (1 : Int)) 64))))) (e_api_Jump (List.getD data0 (Int.toNat (IntKind.i64.wrap (Int.fdiv (IntKind.u64.wrap (IntKind.i64.wrap (start20 + r21))) (2 ^ (min (Int.toNat (1 : Int)) 64))))) default)) (e_api_Jump (List.getD data0 (Int.toNat (IntKind.i64.wrap (Int.fdiv (IntKind.u64.wrap (IntKind.i64.wrap (start20 + r21))) (2 ^ (min (Int.toNat (1 : Int)) 64))))) default)) (List.map e_api_Jump data0) (by kernel_rfl) (by kernel_rfl) (by kernel_rfl) hO (by kernel_rfl) (ownGet c16) ?_
            obtain ⟨x17, hx18, h1⟩ := bindE h1
            refine D_callO cmp4_f (cmp4_a ++ [(e_api_Jump (List.getD data0 (Int.toNat (IntKind.i64.wrap (p22 - (IntKind.i64.wrap (Int.fdiv (IntKind.u64.wrap (IntKind.i64.wrap (start20 + r21))) (2 ^ (min (Int.toNat (1 : Int)) 64))))))) default)), (e_api_Jump (List.getD data0 (Int.toNat (IntKind.i64.wrap (Int.fdiv (IntKind.u64.wrap (IntKind.i64.wrap (start20 + r21))) (2 ^ (min (Int.toNat (1 : Int)) 64))))) default))] ++ cmp4_c) (eInt .i64 x17) (by kernel_rfl) (by kernel_rfl) (cmp4_h (List.getD data0 (Int.toNat (IntKind.i64.wrap (p22 - (IntKind.i64.wrap (Int.fdiv (IntKind.u64.wrap (IntKind.i64.wrap (start20 + r21))) (2 ^ (min (Int.toNat (1 : Int)) 64))))))) default) (List.getD data0 (Int.toNat (IntKind.i64.wrap (Int.fdiv (IntKind.u64.wrap (IntKind.i64.wrap (start20 + r21))) (2 ^ (min (Int.toNat (1 : Int)) 64))))) default) _ hx18) hO ?_
            intro H hO
            refine D_all (Ds := []) (by kernel_rfl) trivial ?_
            refine E_has (l := [(0, (.msl 2 lo0p 0 (List.length data0))), (1, (eInt .i64 a1)), (2, (eInt .i64 m2)), (3, (eInt .i64 b3)), (4, (.fn (.func cmp4_f) cmp4_a cmp4_c)), (18, (eInt .i64 mid18)), (19, (eInt .i64 n19)), (20, (eInt .i64 start20)), (21, (eInt .i64 r21)), (22, (eInt .i64 p22)), (23, (eInt .i64 (IntKind.i64.wrap (Int.fdiv (IntKind.u64.wrap (IntKind.i64.wrap (start20 + r21))) (2 ^ (min (Int.toNat (1 : Int)) 64)))))), (171, (eBool (!(decide (x17 < (0 : Int))))))]) (.eq (by kernel_rfl)) ?_
            refine E_done (thenA_normal (?_))
            refine C_cond (b := !(decide (x17 < (0 : Int)))) (by kernel_rfl) (by kernel_rfl) (fun hc20 => ?_) (fun hc20 => ?_)
            · replace h1 := condT hc20 h1
              refine A_cl (C_region ttOk (n := 3) (by kernel_rfl) (by kernel_rfl) ?_)
              refine R_all (Ds := []) (by kernel_rfl) trivial ?_
              refine E_has (l := [(0, (.msl 2 lo0p 0 (List.length data0))), (1, (eInt .i64 a1)), (2, (eInt .i64 m2)), (3, (eInt .i64 b3)), (4, (.fn (.func cmp4_f) cmp4_a cmp4_c)), (18, (eInt .i64 mid18)), (19, (eInt .i64 n19)), (20, (eInt .i64 (IntKind.i64.wrap ((IntKind.i64.wrap (Int.fdiv (IntKind.u64.wrap (IntKind.i64.wrap (start20 + r21))) (2 ^ (min (Int.toNat (1 : Int)) 64)))) + (1 : Int))))), (21, (eInt .i64 r21)), (22, (eInt .i64 p22))]) (.eq (by kernel_rfl)) ?_
              exact E_done (blockA_normal (thenA_normal (⟨rfl, (data0, IntKind.i64.wrap ((IntKind.i64.wrap (Int.fdiv (IntKind.u64.wrap (IntKind.i64.wrap (start20 + r21))) (2 ^ (min (Int.toNat (1 : Int)) 64)))) + (1 : Int)), r21), (Option.some.inj h1).symm, .eq (by kernel_rfl), hO, hN⟩)))
            · replace h1 := condF hc20 h1
              refine A_cl (C_region ttOk (n := 2) (by kernel_rfl) (by kernel_rfl) ?_)
              refine R_all (Ds := []) (by kernel_rfl) trivial ?_
              refine E_has (l := [(0, (.msl 2 lo0p 0 (List.length data0))), (1, (eInt .i64 a1)), (2, (eInt .i64 m2)), (3, (eInt .i64 b3)), (4, (.fn (.func cmp4_f) cmp4_a cmp4_c)), (18, (eInt .i64 mid18)), (19, (eInt .i64 n19)), (20, (eInt .i64 start20)), (21, (eInt .i64 (IntKind.i64.wrap (Int.fdiv (IntKind.u64.wrap (IntKind.i64.wrap (start20 + r21))) (2 ^ (min (Int.toNat (1 : Int)) 64)))))), (22, (eInt .i64 p22))]) (.eq (by kernel_rfl)) ?_
              exact E_done (blockA_normal (thenA_normal (⟨rfl, (data0, start20, IntKind.i64.wrap (Int.fdiv (IntKind.u64.wrap (IntKind.i64.wrap (start20 + r21))) (2 ^ (min (Int.toNat (1 : Int)) 64)))), (Option.some.inj h1).symm, .eq (by kernel_rfl), hO, hN⟩)))
          · replace h1 := condF hc21 h1
            refine A_cl (C_exit (id := 8) (by kernel_rfl) (by kernel_rfl) ?_)
            refine E_has (l := [(0, (.msl 2 lo0p 0 (List.length data0))), (1, (eInt .i64 a1)), (2, (eInt .i64 m2)), (3, (eInt .i64 b3)), (4, (.fn (.func cmp4_f) cmp4_a cmp4_c)), (18, (eInt .i64 mid18)), (19, (eInt .i64 n19)), (20, (eInt .i64 start20))]) (.eq (by kernel_rfl)) ?_
            obtain rfl := Option.some.inj h1
            obtain rfl : _ = rr0 := ho0
            replace h0 : slices_symMergeCmpFunc_api_Jump_j4 cmp4 rec data0 a1 m2 b3 mid18 n19 start20 = some r := h0
            exact E_done (thenA_exit (thenA_exit (blockA_hit (thenA_normal (⟨rfl, data0, start20, .eq (by kernel_rfl), hO, hN, h0⟩)))))
      · refine C_seq (by kernel_rfl) ?_
        refine A_cl (C_region ttOk (n := 3) (by kernel_rfl) (by kernel_rfl) ?_)
        refine R_all (Ds := []) (by kernel_rfl) trivial ?_
        refine E_has (l := [(0, (.msl 2 lo0p 0 (List.length data0))), (1, (eInt .i64 a1)), (2, (eInt .i64 m2)), (3, (eInt .i64 b3)), (4, (.fn (.func cmp4_f) cmp4_a cmp4_c)), (18, (eInt .i64 (IntKind.i64.wrap (Int.fdiv (IntKind.u64.wrap (IntKind.i64.wrap (a1 + b3))) (2 ^ (min (Int.toNat (1 : Int)) 64)))))), (19, (eInt .i64 (IntKind.i64.wrap ((IntKind.i64.wrap (Int.fdiv (IntKind.u64.wrap (IntKind.i64.wrap (a1 + b3))) (2 ^ (min (Int.toNat (1 : Int)) 64)))) + m2)))), (140, (eBool (decide ((IntKind.i64.wrap (Int.fdiv (IntKind.u64.wrap (IntKind.i64.wrap (a1 + b3))) (2 ^ (min (Int.toNat (1 : Int)) 64)))) < m2))))]) (.eq (by kernel_rfl)) ?_
        refine E_done (thenA_normal (?_))
        refine C_cond (b := decide ((IntKind.i64.wrap (Int.fdiv (IntKind.u64.wrap (IntKind.i64.wrap (a1 + b3))) (2 ^ (min (Int.toNat (1 : Int)) 64)))) < m2)) (by kernel_rfl) (by kernel_rfl) (fun hc22 => ?_) (fun hc22 => ?_)
        · replace h0 := condT hc22 h0
          refine C_seq (by kernel_rfl) ?_
          refine A_cl (C_region ttOk (n := 4) (by kernel_rfl) (by kernel_rfl) ?_)
          refine R_all (Ds := []) (by kernel_rfl) trivial ?_
          refine E_has (l := [(0, (.msl 2 lo0p 0 (List.length data0))), (1, (eInt .i64 a1)), (2, (eInt .i64 m2)), (3, (eInt .i64 b3)), (4, (.fn (.func cmp4_f) cmp4_a cmp4_c)), (18, (eInt .i64 (IntKind.i64.wrap (Int.fdiv (IntKind.u64.wrap (IntKind.i64.wrap (a1 + b3))) (2 ^ (min (Int.toNat (1 : Int)) 64)))))), (19, (eInt .i64 (IntKind.i64.wrap ((IntKind.i64.wrap (Int.fdiv (IntKind.u64.wrap (IntKind.i64.wrap (a1 + b3))) (2 ^ (min (Int.toNat (1 : Int)) 64)))) + m2)))), (20, (eInt .i64 (IntKind.i64.wrap ((IntKind.i64.wrap ((IntKind.i64.wrap (Int.fdiv (IntKind.u64.wrap (IntKind.i64.wrap (a1 + b3))) (2 ^ (min (Int.toNat (1 : Int)) 64)))) + m2)) - b3))))]) (.eq (by kernel_rfl)) ?_
          refine E_done (thenA_normal (?_))
          refine A_cl (C_region ttOk (n := 2) (by kernel_rfl) (by kernel_rfl) ?_)
          refine R_all (Ds := []) (by kernel_rfl) trivial ?_
          refine E_has (l := [(0, (.msl 2 lo0p 0 (List.length data0))), (1, (eInt .i64 a1)), (2, (eInt .i64 m2)), (3, (eInt .i64 b3)), (4, (.fn (.func cmp4_f) cmp4_a cmp4_c)), (18, (eInt .i64 (IntKind.i64.wrap (Int.fdiv (IntKind.u64.wrap (IntKind.i64.wrap (a1 + b3))) (2 ^ (min (Int.toNat (1 : Int)) 64)))))), (19, (eInt .i64 (IntKind.i64.wrap ((IntKind.i64.wrap (Int.fdiv (IntKind.u64.wrap (IntKind.i64.wrap (a1 + b3))) (2 ^ (min (Int.toNat (1 : Int)) 64)))) + m2)))), (20, (eInt .i64 (IntKind.i64.wrap ((IntKind.i64.wrap ((IntKind.i64.wrap (Int.fdiv (IntKind.u64.wrap (IntKind.i64.wrap (a1 + b3))) (2 ^ (min (Int.toNat (1 : Int)) 64)))) + m2)) - b3)))), (21, (eInt .i64 (IntKind.i64.wrap (Int.fdiv (IntKind.u64.wrap (IntKind.i64.wrap (a1 + b3))) (2 ^ (min (Int.toNat (1 : Int)) 64))))))]) (.eq (by kernel_rfl)) ?_
          exact E_done (thenA_normal (⟨rfl, data0, IntKind.i64.wrap (Int.fdiv (IntKind.u64.wrap (IntKind.i64.wrap (a1 + b3))) (2 ^ (min (Int.toNat (1 : Int)) 64))), IntKind.i64.wrap ((IntKind.i64.wrap (Int.fdiv (IntKind.u64.wrap (IntKind.i64.wrap (a1 + b3))) (2 ^ (min (Int.toNat (1 : Int)) 64)))) + m2), IntKind.i64.wrap ((IntKind.i64.wrap ((IntKind.i64.wrap (Int.fdiv (IntKind.u64.wrap (IntKind.i64.wrap (a1 + b3))) (2 ^ (min (Int.toNat (1 : Int)) 64)))) + m2)) - b3), IntKind.i64.wrap (Int.fdiv (IntKind.u64.wrap (IntKind.i64.wrap (a1 + b3))) (2 ^ (min (Int.toNat (1 : Int)) 64))), .eq (by kernel_rfl), hO, hN, h0⟩))
        · replace h0 := condF hc22 h0
          refine C_seq (by kernel_rfl) ?_
          refine A_cl (C_region ttOk (n := 2) (by kernel_rfl) (by kernel_rfl) ?_)
          refine R_all (Ds := []) (by kernel_rfl) trivial ?_
          refine E_has (l := [(0, (.msl 2 lo0p 0 (List.length data0))), (1, (eInt .i64 a1)), (2, (eInt .i64 m2)), (3, (eInt .i64 b3)), (4, (.fn (.func cmp4_f) cmp4_a cmp4_c)), (18, (eInt .i64 (IntKind.i64.wrap (Int.fdiv (IntKind.u64.wrap (IntKind.i64.wrap (a1 + b3))) (2 ^ (min (Int.toNat (1 : Int)) 64)))))), (19, (eInt .i64 (IntKind.i64.wrap ((IntKind.i64.wrap (Int.fdiv (IntKind.u64.wrap (IntKind.i64.wrap (a1 + b3))) (2 ^ (min (Int.toNat (1 : Int)) 64)))) + m2)))), (20, (eInt .i64 a1))]) (.eq (by kernel_rfl)) ?_
          refine E_done (thenA_normal (?_))
          refine A_cl (C_region ttOk (n := 2) (by kernel_rfl) (by kernel_rfl) ?_)
          refine R_all (Ds := []) (by kernel_rfl) trivial ?_
          refine E_has (l := [(0, (.msl 2 lo0p 0 (List.length data0))), (1, (eInt .i64 a1)), (2, (eInt .i64 m2)), (3, (eInt .i64 b3)), (4, (.fn (.func cmp4_f) cmp4_a cmp4_c)), (18, (eInt .i64 (IntKind.i64.wrap (Int.fdiv (IntKind.u64.wrap (IntKind.i64.wrap (a1 + b3))) (2 ^ (min (Int.toNat (1 : Int)) 64)))))), (19, (eInt .i64 (IntKind.i64.wrap ((IntKind.i64.wrap (Int.fdiv (IntKind.u64.wrap (IntKind.i64.wrap (a1 + b3))) (2 ^ (min (Int.toNat (1 : Int)) 64)))) + m2)))), (20, (eInt .i64 a1)), (21, (eInt .i64 m2))]) (.eq (by kernel_rfl)) ?_
          exact E_done (thenA_normal (⟨rfl, data0, IntKind.i64.wrap (Int.fdiv (IntKind.u64.wrap (IntKind.i64.wrap (a1 + b3))) (2 ^ (min (Int.toNat (1 : Int)) 64))), IntKind.i64.wrap ((IntKind.i64.wrap (Int.fdiv (IntKind.u64.wrap (IntKind.i64.wrap (a1 + b3))) (2 ^ (min (Int.toNat (1 : Int)) 64)))) + m2), a1, m2, .eq (by kernel_rfl), hO, hN, h0⟩))
    · refine C_seq (by kernel_rfl) ?_
      refine A_cl (C_region ttOk (n := 4) (by kernel_rfl) (by kernel_rfl) ?_)
      refine R_all (Ds := []) (by kernel_rfl) trivial ?_
      refine E_has (l := [(0, (.msl 2 lo0p 0 (List.length data0))), (1, (eInt .i64 a1)), (2, (eInt .i64 m2)), (3, (eInt .i64 b3)), (4, (.fn (.func cmp4_f) cmp4_a cmp4_c)), (80, (eBool (decide ((IntKind.i64.wrap (b3 - m2)) = (1 : Int)))))]) (.eq (by kernel_rfl)) ?_
      refine E_done (thenA_normal (?_))
      refine C_cond (b := decide ((IntKind.i64.wrap (b3 - m2)) = (1 : Int))) (by kernel_rfl) (by kernel_rfl) (fun hc36 => ?_) (fun hc36 => ?_)
      · replace h0 := condT hc36 h0
        refine C_seq (by kernel_rfl) ?_
        refine A_cl (C_region ttOk (n := 2) (by kernel_rfl) (by kernel_rfl) ?_)
        refine R_all (Ds := []) (by kernel_rfl) trivial ?_
        refine E_has (l := [(0, (.msl 2 lo0p 0 (List.length data0))), (2, (eInt .i64 m2)), (4, (.fn (.func cmp4_f) cmp4_a cmp4_c)), (14, (eInt .i64 a1))]) (.eq (by kernel_rfl)) ?_
        refine E_done (thenA_normal (?_))
        refine C_seq (by kernel_rfl) ?_
        refine A_cl (C_region ttOk (n := 2) (by kernel_rfl) (by kernel_rfl) ?_)
        refine R_all (Ds := []) (by kernel_rfl) trivial ?_
        refine E_has (l := [(0, (.msl 2 lo0p 0 (List.length data0))), (2, (eInt .i64 m2)), (4, (.fn (.func cmp4_f) cmp4_a cmp4_c)), (14, (eInt .i64 a1)), (15, (eInt .i64 m2))]) (.eq (by kernel_rfl)) ?_
        refine E_done (thenA_normal (?_))
        refine C_seqJ (by kernel_rfl) (fun T H => ∃ data0 : List api_Jump, ∃ i14 : Int, Has T [(0, (.msl 2 lo0p 0 (List.length data0))), (2, (eInt .i64 m2)), (14, (eInt .i64 i14))] ∧ Owns ⟨H0, [lo0p]⟩ H [(lo0p, 2, List.map e_api_Jump data0)] ∧ List.length data0 = N0 ∧ slices_symMergeCmpFunc_api_Jump_j8 cmp4 rec data0 m2 i14 = some r) ?_ ?_
        · clear hO hN h0
          rintro T H ⟨data0, i14, hT, hO, hN, h0⟩
          refine C_has hT ?_
          clear hT
          unfold slices_symMergeCmpFunc_api_Jump_j8 at h0
          refine C_seqJ (by kernel_rfl) (fun T H => ∃ data0 : List api_Jump, Has T [(0, (.msl 2 lo0p 0 (List.length data0)))] ∧ Owns ⟨H0, [lo0p]⟩ H [(lo0p, 2, List.map e_api_Jump data0)] ∧ List.length data0 = N0 ∧ slices_symMergeCmpFunc_api_Jump_j9 cmp4 rec data0 = some r) ?_ ?_
          · clear hO hN h0
            rintro T H ⟨data0, hT, hO, hN, h0⟩
            refine C_has hT ?_
            clear hT
            unfold slices_symMergeCmpFunc_api_Jump_j9 at h0
            refine A_cl (C_ret (by kernel_rfl) ?_)
            refine E_has (l := [(0, (.msl 2 lo0p 0 (List.length data0)))]) (.eq (by kernel_rfl)) ?_
            obtain rfl := Option.some.inj h0
            exact E_done (thenA_ret (Q_ret (x := (.tup [])) (by kernel_rfl) (SubV.refl _) ⟨rfl, hO.ext, hO.at 0 (by kernel_rfl), by simp only [List.length_map]; exact hN.trans hN0⟩))
          · refine C_seq (by kernel_rfl) ?_
            refine A_cl (C_region ttOk (n := 2) (by kernel_rfl) (by kernel_rfl) ?_)
            refine R_all (Ds := []) (by kernel_rfl) trivial ?_
            refine E_has (l := [(0, (.msl 2 lo0p 0 (List.length data0))), (14, (eInt .i64 i14)), (17, (eInt .i64 m2))]) (.eq (by kernel_rfl)) ?_
            refine E_done (thenA_normal (?_))
            refine C_block (id := 6) (by kernel_rfl) (by kernel_rfl) ?_
            refine C_has (l := [(0, (.msl 2 lo0p 0 (List.length data0))), (14, (eInt .i64 i14)), (17, (eInt .i64 m2))]) (.eq (by kernel_rfl)) ?_
            refine C_cut (fun T H => ∃ data0 : List api_Jump, ∃ k17 : Int, Has T [(0, (.msl 2 lo0p 0 (List.length data0))), (14, (eInt .i64 i14)), (17, (eInt .i64 k17))] ∧ Owns ⟨H0, [lo0p]⟩ H [(lo0p, 2, List.map e_api_Jump data0)] ∧ List.length data0 = N0 ∧ slices_symMergeCmpFunc_api_Jump_h10 cmp4 rec data0 i14 k17 = some r) ?_ ⟨data0, m2, .eq (by kernel_rfl), hO, hN, h0⟩
            clear hO hN h0
            rintro T H ⟨data0, k17, hT, hO, hN, h0⟩
            refine C_has hT ?_
            clear hT
            unfold slices_symMergeCmpFunc_api_Jump_h10 at h0
            obtain ⟨rr0, hl0, h0⟩ := bindE h0
            refine C_loopS (by kernel_rfl) (fun (s : List api_Jump × Int) T H => Has T [(0, (.msl 2 lo0p 0 (List.length s.1))), (14, (eInt .i64 i14)), (17, (eInt .i64 s.2))] ∧ Owns ⟨H0, [lo0p]⟩ H [(lo0p, 2, List.map e_api_Jump s.1)] ∧ List.length s.1 = N0) hl0 ⟨.eq (by kernel_rfl), hO, hN⟩ ?_
            clear hO hN
            rintro k0 s out1 T H ⟨hT, hO, hN⟩ h1 ho0
            obtain ⟨data0, k17⟩ := s
            replace h1 : slices_symMergeCmpFunc_api_Jump_l10 cmp4 rec i14 data0 k17 = some out1 := h1
            refine C_has (l := [(0, (.msl 2 lo0p 0 (List.length data0))), (14, (eInt .i64 i14)), (17, (eInt .i64 k17))]) hT ?_
            clear hT
            unfold slices_symMergeCmpFunc_api_Jump_l10 at h1
            refine C_seq (by kernel_rfl) ?_
            refine C_seq (by kernel_rfl) ?_
            refine A_cl (C_region ttOk (n := 3) (by kernel_rfl) (by kernel_rfl) ?_)
            refine R_all (Ds := []) (by kernel_rfl) trivial ?_
            refine E_has (l := [(0, (.msl 2 lo0p 0 (List.length data0))), (14, (eInt .i64 i14)), (17, (eInt .i64 k17)), (110, (eBool (decide (i14 < k17))))]) (.eq (by kernel_rfl)) ?_
            refine E_done (thenA_normal (?_))
            refine C_cond (b := decide (i14 < k17)) (by kernel_rfl) (by kernel_rfl) (fun hc27 => ?_) (fun hc27 => ?_)
            · replace h1 := condT hc27 h1
              refine A_cl (C_skip (by kernel_rfl) ?_)
              refine E_has (l := [(0, (.msl 2 lo0p 0 (List.length data0))), (14, (eInt .i64 i14)), (17, (eInt .i64 k17))]) (.eq (by kernel_rfl)) ?_
              refine E_done (thenA_normal (?_))
              refine C_seq (by kernel_rfl) ?_
              refine C_block (id := 7) (by kernel_rfl) (by kernel_rfl) ?_
              refine A_cl (C_draw ttOk (by kernel_rfl) (n := 18) (by kernel_rfl) (by kernel_rfl) (by kernel_rfl) ?_)
              obtain ⟨c23, h1⟩ := asrtE h1
              refine D_pure 9 (by kernel_rfl) (Ds := [0 ≤ (IntKind.i64.wrap (k17 - (1 : Int))) ∧ (IntKind.i64.wrap (k17 - (1 : Int))) < ((List.length data0 : Nat) : Int)]) (by kernel_rfl) ⟨c23, trivial⟩ ?_
              refine D_loadO 0 lo0p 2 (0 + Int.toNat (IntKind.i64.wrap (k17 - (1 : Int)))) (e_api_Jump (List.getD data0 (Int.toNat (IntKind.i64.wrap (k17 - (1 : Int)))) default)) (e_api_Jump (List.getD data0 (Int.toNat (IntKind.i64.wrap (k17 - (1 : Int)))) default)) (List.map e_api_Jump data0) (by kernel_rfl) (by kernel_rfl) (by kernel_rfl) hO (by kernel_rfl) (ownGet c23) ?_
              obtain ⟨c24, h1⟩ := asrtE h1
              refine D_pure 13 (by kernel_rfl) (Ds := [0 ≤ k17 ∧ k17 < ((List.length data0 : Nat) : Int)]) (by kernel_rfl) ⟨c24, trivial⟩ ?_
              refine D_loadO 0 lo0p 2 (0 + Int.toNat k17) (e_api_Jump (List.getD data0 (Int.toNat k17) default)) (e_api_Jump (List.getD data0 (Int.toNat k17) default)) (List.map e_api_Jump data0) (by kernel_rfl) (by kernel_rfl) (by kernel_rfl) hO (by kernel_rfl) (ownGet c24) ?_
              obtain ⟨c25, h1⟩ := asrtE h1
              refine D_pure 15 (by kernel_rfl) (Ds := [0 ≤ k17 ∧ k17 < ((List.length data0 : Nat) : Int)]) (by kernel_rfl) ⟨c25, trivial⟩ ?_
              refine D_storeO 0 lo0p 2 (0 + Int.toNat k17) (e_api_Jump (List.getD data0 (Int.toNat k17) default)) (e_api_Jump (List.getD data0 (Int.toNat (IntKind.i64.wrap (k17 - (1 : Int)))) default)) (List.map e_api_Jump data0) [(lo0p, 2, List.map e_api_Jump (List.set data0 (Int.toNat k17) (List.getD data0 (Int.toNat (IntKind.i64.wrap (k17 - (1 : Int)))) default)))] (by kernel_rfl) (by kernel_rfl) (by kernel_rfl) hO (by kernel_rfl) (ownGet c25) (by simp only [List.set, ownSet]) ?_
              intro H hO
              replace hN : List.length (List.set data0 (Int.toNat k17) (List.getD data0 (Int.toNat (IntKind.i64.wrap (k17 - (1 : Int)))) default)) = N0 := by simpa using hN
              obtain ⟨c26, h1⟩ := asrtE h1
              refine D_pure 17 (by kernel_rfl) (Ds := [0 ≤ (IntKind.i64.wrap (k17 - (1 : Int))) ∧ (IntKind.i64.wrap (k17 - (1 : Int))) < ((List.length data0 : Nat) : Int)]) (by kernel_rfl) ⟨c26, trivial⟩ ?_
              refine D_storeO 0 lo0p 2 (0 + Int.toNat (IntKind.i64.wrap (k17 - (1 : Int)))) (e_api_Jump (List.getD (List.set data0 (Int.toNat k17) (List.getD data0 (Int.toNat (IntKind.i64.wrap (k17 - (1 : Int)))) default)) (Int.toNat (IntKind.i64.wrap (k17 - (1 : Int)))) default)) (e_api_Jump (List.getD data0 (Int.toNat k17) default)) (List.map e_api_Jump (List.set data0 (Int.toNat k17) (List.getD data0 (Int.toNat (IntKind.i64.wrap (k17 - (1 : Int)))) default))) [(lo0p, 2, List.map e_api_Jump (List.set (List.set data0 (Int.toNat k17) (List.getD data0 (Int.toNat (IntKind.i64.wrap (k17 - (1 : Int)))) default)) (Int.toNat (IntKind.i64.wrap (k17 - (1 : Int)))) (List.getD data0 (Int.toNat k17) default)))] (by kernel_rfl) (by kernel_rfl) (by kernel_rfl) hO (by kernel_rfl) (ownGetN c26 (by simp [])) (by simp only [List.set, ownSet]) ?_
              intro H hO
              replace hN : List.length (List.set (List.set data0 (Int.toNat k17) (List.getD data0 (Int.toNat (IntKind.i64.wrap (k17 - (1 : Int)))) default)) (Int.toNat (IntKind.i64.wrap (k17 - (1 : Int)))) (List.getD data0 (Int.toNat k17) default)) = N0 := by simpa using hN
              refine D_end (by kernel_rfl) ?_
              refine E_has (l := [(0, (.msl 2 lo0p 0 (List.length (List.set (List.set data0 (Int.toNat k17) (List.getD data0 (Int.toNat (IntKind.i64.wrap (k17 - (1 : Int)))) default)) (Int.toNat (IntKind.i64.wrap (k17 - (1 : Int)))) (List.getD data0 (Int.toNat k17) default))))), (14, (eInt .i64 i14)), (17, (eInt .i64 k17))]) ⟨[(0, (.msl 2 lo0p 0 (List.length data0))), (14, (eInt .i64 i14)), (17, (eInt .i64 k17))], by kernel_rfl, rfl, ⟨SubV.eq (by simp []), SubV.refl _, SubV.refl _, trivial⟩⟩ ?_
              refine E_done (blockA_normal (thenA_normal (?_)))
              refine A_cl (C_region ttOk (n := 3) (by kernel_rfl) (by kernel_rfl) ?_)
              refine R_all (Ds := []) (by kernel_rfl) trivial ?_
              refine E_has (l := [(0, (.msl 2 lo0p 0 (List.length (List.set (List.set data0 (Int.toNat k17) (List.getD data0 (Int.toNat (IntKind.i64.wrap (k17 - (1 : Int)))) default)) (Int.toNat (IntKind.i64.wrap (k17 - (1 : Int)))) (List.getD data0 (Int.toNat k17) default))))), (14, (eInt .i64 i14)), (17, (eInt .i64 (IntKind.i64.wrap (k17 - (1 : Int)))))]) (.eq (by kernel_rfl)) ?_
              exact E_done (thenA_normal (⟨rfl, (List.set (List.set data0 (Int.toNat k17) (List.getD data0 (Int.toNat (IntKind.i64.wrap (k17 - (1 : Int)))) default)) (Int.toNat (IntKind.i64.wrap (k17 - (1 : Int)))) (List.getD data0 (Int.toNat k17) default), IntKind.i64.wrap (k17 - (1 : Int))), (Option.some.inj h1).symm, .eq (by kernel_rfl), hO, hN⟩))
            · replace h1 := condF hc27 h1
              refine A_cl (C_exit (id := 6) (by kernel_rfl) (by kernel_rfl) ?_)
              refine E_has (l := [(0, (.msl 2 lo0p 0 (List.length data0)))]) (.eq (by kernel_rfl)) ?_
              obtain rfl := Option.some.inj h1
              obtain rfl : _ = rr0 := ho0
              replace h0 : slices_symMergeCmpFunc_api_Jump_j9 cmp4 rec data0 = some r := h0
              exact E_done (thenA_exit (thenA_exit (blockA_hit (thenA_normal (⟨rfl, data0, .eq (by kernel_rfl), hO, hN, h0⟩)))))
        · refine C_block (id := 4) (by kernel_rfl) (by kernel_rfl) ?_
          refine C_has (l := [(0, (.msl 2 lo0p 0 (List.length data0))), (2, (eInt .i64 m2)), (4, (.fn (.func cmp4_f) cmp4_a cmp4_c)), (14, (eInt .i64 a1)), (15, (eInt .i64 m2))]) (.eq (by kernel_rfl)) ?_
          refine C_cut (fun T H => ∃ data0 : List api_Jump, ∃ i14 : Int, ∃ j15 : Int, Has T [(0, (.msl 2 lo0p 0 (List.length data0))), (2, (eInt .i64 m2)), (4, (.fn (.func cmp4_f) cmp4_a cmp4_c)), (14, (eInt .i64 i14)), (15, (eInt .i64 j15))] ∧ Owns ⟨H0, [lo0p]⟩ H [(lo0p, 2, List.map e_api_Jump data0)] ∧ List.length data0 = N0 ∧ slices_symMergeCmpFunc_api_Jump_h11 cmp4 rec data0 m2 i14 j15 = some r) ?_ ⟨data0, a1, m2, .eq (by kernel_rfl), hO, hN, h0⟩
          clear hO hN h0
          rintro T H ⟨data0, i14, j15, hT, hO, hN, h0⟩
          refine C_has hT ?_
          clear hT
          unfold slices_symMergeCmpFunc_api_Jump_h11 at h0
          obtain ⟨rr0, hl0, h0⟩ := bindE h0
          refine C_loopS (by kernel_rfl) (fun (s : List api_Jump × Int × Int) T H => Has T [(0, (.msl 2 lo0p 0 (List.length s.1))), (2, (eInt .i64 m2)), (4, (.fn (.func cmp4_f) cmp4_a cmp4_c)), (14, (eInt .i64 s.2.1)), (15, (eInt .i64 s.2.2))] ∧ Owns ⟨H0, [lo0p]⟩ H [(lo0p, 2, List.map e_api_Jump s.1)] ∧ List.length s.1 = N0) hl0 ⟨.eq (by kernel_rfl), hO, hN⟩ ?_
          clear hO hN
          rintro k0 s out1 T H ⟨hT, hO, hN⟩ h1 ho0
          obtain ⟨data0, i14, j15⟩ := s
          replace h1 : slices_symMergeCmpFunc_api_Jump_l11 cmp4 rec m2 data0 i14 j15 = some out1 := h1
          refine C_has (l := [(0, (.msl 2 lo0p 0 (List.length data0))), (2, (eInt .i64 m2)), (4, (.fn (.func cmp4_f) cmp4_a cmp4_c)), (14, (eInt .i64 i14)), (15, (eInt .i64 j15))]) hT ?_
          clear hT
          unfold slices_symMergeCmpFunc_api_Jump_l11 at h1
          refine C_seq (by kernel_rfl) ?_
          refine C_seq (by kernel_rfl) ?_
          refine A_cl (C_region ttOk (n := 3) (by kernel_rfl) (by kernel_rfl) ?_)
          refine R_all (Ds := []) (by kernel_rfl) trivial ?_
          refine E_has (l := [(0, (.msl 2 lo0p 0 (List.length data0))), (2, (eInt .i64 m2)), (4, (.fn (.func cmp4_f) cmp4_a cmp4_c)), (14, (eInt .i64 i14)), (15, (eInt .i64 j15)), (85, (eBool (decide (i14 < j15))))]) (.eq (by kernel_rfl)) ?_
          refine E_done (thenA_normal (?_))
          refine C_cond (b := decide (i14 < j15)) (by kernel_rfl) (by kernel_rfl) (fun hc35 => ?_) (fun hc35 => ?_)
          · replace h1 := condT hc35 h1
            refine A_cl (C_skip (by kernel_rfl) ?_)
            refine E_has (l := [(0, (.msl 2 lo0p 0 (List.length data0))), (2, (eInt .i64 m2)), (4, (.fn (.func cmp4_f) cmp4_a cmp4_c)), (14, (eInt .i64 i14)), (15, (eInt .i64 j15))]) (.eq (by kernel_rfl)) ?_
            refine E_done (thenA_normal (?_))
            refine C_block (id := 5) (by kernel_rfl) (by kernel_rfl) ?_
            refine C_seq (by kernel_rfl) ?_
            refine A_cl (C_region ttOk (n := 7) (by kernel_rfl) (by kernel_rfl) ?_)
            obtain ⟨c28, h1⟩ := asrtE h1
            refine R_all (Ds := [0 ≤ (1 : Int)]) (by kernel_rfl) ⟨c28, trivial⟩ ?_
            refine E_has (l := [(0, (.msl 2 lo0p 0 (List.length data0))), (2, (eInt .i64 m2)), (4, (.fn (.func cmp4_f) cmp4_a cmp4_c)), (14, (eInt .i64 i14)), (15, (eInt .i64 j15)), (16, (eInt .i64 (IntKind.i64.wrap (Int.fdiv (IntKind.u64.wrap (IntKind.i64.wrap (i14 + j15))) (2 ^ (min (Int.toNat (1 : Int)) 64))))))]) (.eq (by kernel_rfl)) ?_
            refine E_done (thenA_normal (?_))
            refine C_seq (by kernel_rfl) ?_
            refine A_cl (C_draw ttOk (by kernel_rfl) (n := 12) (by kernel_rfl) (by kernel_rfl) (by kernel_rfl) ?_)
            obtain ⟨c29, h1⟩ := asrtE h1
            refine D_pure 4 (by kernel_rfl) (Ds := [0 ≤ m2 ∧ m2 < ((List.length data0 : Nat) : Int)]) (by kernel_rfl) ⟨c29, trivial⟩ ?_
            refine D_loadO 0 lo0p 2 (0 + Int.toNat m2) (e_api_Jump (List.getD data0 (Int.toNat m2) default)) (e_api_Jump (List.getD data0 (Int.toNat m2) default)) (List.map e_api_Jump data0) (by kernel_rfl) (by kernel_rfl) (by kernel_rfl) hO (by kernel_rfl) (ownGet c29) ?_
            obtain ⟨c30, h1⟩ := asrtE h1
            refine D_pure 8 (by kernel_rfl) (Ds := [0 ≤ (IntKind.i64.wrap (Int.fdiv (IntKind.u64.wrap (IntKind.i64.wrap (i14 + j15))) (2 ^ (min (Int.toNat (1 : Int)) 64)))) ∧ (IntKind.i64.wrap (Int.fdiv (IntKind.u64.wrap (IntKind.i64.wrap (i14 + j15))) (2 ^ (min (Int.toNat (1 : Int)) 64)))) < ((List.length data0 : Nat) : Int)]) (by kernel_rfl) ⟨c30, trivial⟩ ?_
            refine D_loadO 0 lo0p 2 (0 + Int.toNat (IntKind.i64.wrap (Int.fdiv (IntKind.u64.wrap (IntKind.i64.wrap (i14 + j15))) (2 ^ (min (Int.toNat (1 : Int)) 64))))) (e_api_Jump (List.getD data0 (Int.toNat (IntKind.i64.wrap (Int.fdiv (IntKind.u64.wrap (IntKind.i64.wrap (i14 + j15))) (2 ^ (min (Int.toNat (1 : Int)) 64))))) default)) (e_api_Jump (List.getD data0 (Int.toNat (IntKind.i64.wrap (Int.fdiv (IntKind.u64.wrap (IntKind.i64.wrap (i14 + j15))) (2 ^ (min (Int.toNat (1 : Int)) 64))))) default)) (List.map e_api_Jump data0) (by kernel_rfl) (by kernel_rfl) (by kernel_rfl) hO (by kernel_rfl) (ownGet c30) ?_
            obtain ⟨x31, hx32, h1⟩ := bindE h1
            refine D_callO cmp4_f (cmp4_a ++ [(e_api_Jump (List.getD data0 (Int.toNat m2) default)), (e_api_Jump (List.getD data0 (Int.toNat (IntKind.i64.wrap (Int.fdiv (IntKind.u64.wrap (IntKind.i64.wrap (i14 + j15))) (2 ^ (min (Int.toNat (1 : Int)) 64))))) default))] ++ cmp4_c) (eInt .i64 x31) (by kernel_rfl) (by kernel_rfl) (cmp4_h (List.getD data0 (Int.toNat m2) default) (List.getD data0 (Int.toNat (IntKind.i64.wrap (Int.fdiv (IntKind.u64.wrap (IntKind.i64.wrap (i14 + j15))) (2 ^ (min (Int.toNat (1 : Int)) 64))))) default) _ hx32) hO ?_
            intro H hO
            refine D_all (Ds := []) (by kernel_rfl) trivial ?_
            refine E_has (l := [(0, (.msl 2 lo0p 0 (List.length data0))), (2, (eInt .i64 m2)), (4, (.fn (.func cmp4_f) cmp4_a cmp4_c)), (14, (eInt .i64 i14)), (15, (eInt .i64 j15)), (16, (eInt .i64 (IntKind.i64.wrap (Int.fdiv (IntKind.u64.wrap (IntKind.i64.wrap (i14 + j15))) (2 ^ (min (Int.toNat (1 : Int)) 64)))))), (103, (eBool (!(decide (x31 < (0 : Int))))))]) (.eq (by kernel_rfl)) ?_
            refine E_done (thenA_normal (?_))
            refine C_cond (b := !(decide (x31 < (0 : Int)))) (by kernel_rfl) (by kernel_rfl) (fun hc34 => ?_) (fun hc34 => ?_)
            · replace h1 := condT hc34 h1
              refine A_cl (C_region ttOk (n := 3) (by kernel_rfl) (by kernel_rfl) ?_)
              refine R_all (Ds := []) (by kernel_rfl) trivial ?_
              refine E_has (l := [(0, (.msl 2 lo0p 0 (List.length data0))), (2, (eInt .i64 m2)), (4, (.fn (.func cmp4_f) cmp4_a cmp4_c)), (14, (eInt .i64 (IntKind.i64.wrap ((IntKind.i64.wrap (Int.fdiv (IntKind.u64.wrap (IntKind.i64.wrap (i14 + j15))) (2 ^ (min (Int.toNat (1 : Int)) 64)))) + (1 : Int))))), (15, (eInt .i64 j15))]) (.eq (by kernel_rfl)) ?_
              exact E_done (blockA_normal (thenA_normal (⟨rfl, (data0, IntKind.i64.wrap ((IntKind.i64.wrap (Int.fdiv (IntKind.u64.wrap (IntKind.i64.wrap (i14 + j15))) (2 ^ (min (Int.toNat (1 : Int)) 64)))) + (1 : Int)), j15), (Option.some.inj h1).symm, .eq (by kernel_rfl), hO, hN⟩)))
            · replace h1 := condF hc34 h1
              refine A_cl (C_region ttOk (n := 2) (by kernel_rfl) (by kernel_rfl) ?_)
              refine R_all (Ds := []) (by kernel_rfl) trivial ?_
              refine E_has (l := [(0, (.msl 2 lo0p 0 (List.length data0))), (2, (eInt .i64 m2)), (4, (.fn (.func cmp4_f) cmp4_a cmp4_c)), (14, (eInt .i64 i14)), (15, (eInt .i64 (IntKind.i64.wrap (Int.fdiv (IntKind.u64.wrap (IntKind.i64.wrap (i14 + j15))) (2 ^ (min (Int.toNat (1 : Int)) 64))))))]) (.eq (by kernel_rfl)) ?_
              exact E_done (blockA_normal (thenA_normal (⟨rfl, (data0, i14, IntKind.i64.wrap (Int.fdiv (IntKind.u64.wrap (IntKind.i64.wrap (i14 + j15))) (2 ^ (min (Int.toNat (1 : Int)) 64)))), (Option.some.inj h1).symm, .eq (by kernel_rfl), hO, hN⟩)))
          · replace h1 := condF hc35 h1
            refine A_cl (C_exit (id := 4) (by kernel_rfl) (by kernel_rfl) ?_)
            refine E_has (l := [(0, (.msl 2 lo0p 0 (List.length data0))), (2, (eInt .i64 m2)), (14, (eInt .i64 i14))]) (.eq (by kernel_rfl)) ?_
            obtain rfl := Option.some.inj h1
            obtain rfl : _ = rr0 := ho0
            replace h0 : slices_symMergeCmpFunc_api_Jump_j8 cmp4 rec data0 m2 i14 = some r := h0
            exact E_done (thenA_exit (thenA_exit (blockA_hit (thenA_normal (⟨rfl, data0, i14, .eq (by kernel_rfl), hO, hN, h0⟩)))))
      · replace h0 := condF hc36 h0
        refine A_cl (C_skip (by kernel_rfl) ?_)
        refine E_has (l := [(0, (.msl 2 lo0p 0 (List.length data0))), (1, (eInt .i64 a1)), (2, (eInt .i64 m2)), (3, (eInt .i64 b3)), (4, (.fn (.func cmp4_f) cmp4_a cmp4_c))]) (.eq (by kernel_rfl)) ?_
        exact E_done (thenA_normal (⟨rfl, data0, .eq (by kernel_rfl), hO, hN, h0⟩))
  · refine C_seq (by kernel_rfl) ?_
    refine A_cl (C_region ttOk (n := 4) (by kernel_rfl) (by kernel_rfl) ?_)
    refine R_all (Ds := []) (by kernel_rfl) trivial ?_
    refine E_has (l := [(0, (.msl 2 lo0p 0 (List.length data0))), (1, (eInt .i64 a1)), (2, (eInt .i64 m2)), (3, (eInt .i64 b3)), (4, (.fn (.func cmp4_f) cmp4_a cmp4_c)), (28, (eBool (decide ((IntKind.i64.wrap (m2 - a1)) = (1 : Int)))))]) (.eq (by kernel_rfl)) ?_
    refine E_done (thenA_normal (?_))
    refine C_cond (b := decide ((IntKind.i64.wrap (m2 - a1)) = (1 : Int))) (by kernel_rfl) (by kernel_rfl) (fun hc50 => ?_) (fun hc50 => ?_)
    · replace h0 := condT hc50 h0
      refine C_seq (by kernel_rfl) ?_
      refine A_cl (C_region ttOk (n := 2) (by kernel_rfl) (by kernel_rfl) ?_)
      refine R_all (Ds := []) (by kernel_rfl) trivial ?_
      refine E_has (l := [(0, (.msl 2 lo0p 0 (List.length data0))), (1, (eInt .i64 a1)), (3, (eInt .i64 b3)), (4, (.fn (.func cmp4_f) cmp4_a cmp4_c)), (10, (eInt .i64 m2))]) (.eq (by kernel_rfl)) ?_
      refine E_done (thenA_normal (?_))
      refine C_seq (by kernel_rfl) ?_
      refine A_cl (C_region ttOk (n := 2) (by kernel_rfl) (by kernel_rfl) ?_)
      refine R_all (Ds := []) (by kernel_rfl) trivial ?_
      refine E_has (l := [(0, (.msl 2 lo0p 0 (List.length data0))), (1, (eInt .i64 a1)), (4, (.fn (.func cmp4_f) cmp4_a cmp4_c)), (10, (eInt .i64 m2)), (11, (eInt .i64 b3))]) (.eq (by kernel_rfl)) ?_
      refine E_done (thenA_normal (?_))
      refine C_seqJ (by kernel_rfl) (fun T H => ∃ data0 : List api_Jump, ∃ i10 : Int, Has T [(0, (.msl 2 lo0p 0 (List.length data0))), (1, (eInt .i64 a1)), (10, (eInt .i64 i10))] ∧ Owns ⟨H0, [lo0p]⟩ H [(lo0p, 2, List.map e_api_Jump data0)] ∧ List.length data0 = N0 ∧ slices_symMergeCmpFunc_api_Jump_j12 cmp4 rec data0 a1 i10 = some r) ?_ ?_
      · clear hO hN h0
        rintro T H ⟨data0, i10, hT, hO, hN, h0⟩
        refine C_has hT ?_
        clear hT
        unfold slices_symMergeCmpFunc_api_Jump_j12 at h0
        refine C_seqJ (by kernel_rfl) (fun T H => ∃ data0 : List api_Jump, Has T [(0, (.msl 2 lo0p 0 (List.length data0)))] ∧ Owns ⟨H0, [lo0p]⟩ H [(lo0p, 2, List.map e_api_Jump data0)] ∧ List.length data0 = N0 ∧ slices_symMergeCmpFunc_api_Jump_j13 cmp4 rec data0 = some r) ?_ ?_
        · clear hO hN h0
          rintro T H ⟨data0, hT, hO, hN, h0⟩
          refine C_has hT ?_
          clear hT
          unfold slices_symMergeCmpFunc_api_Jump_j13 at h0
          refine A_cl (C_ret (by kernel_rfl) ?_)
          refine E_has (l := [(0, (.msl 2 lo0p 0 (List.length data0)))]) (.eq (by kernel_rfl)) ?_
          obtain rfl := Option.some.inj h0
          exact E_done (thenA_ret (Q_ret (x := (.tup [])) (by kernel_rfl) (SubV.refl _) ⟨rfl, hO.ext, hO.at 0 (by kernel_rfl), by simp only [List.length_map]; exact hN.trans hN0⟩))
        · refine C_seq (by kernel_rfl) ?_
          refine A_cl (C_region ttOk (n := 2) (by kernel_rfl) (by kernel_rfl) ?_)
          refine R_all (Ds := []) (by kernel_rfl) trivial ?_
          refine E_has (l := [(0, (.msl 2 lo0p 0 (List.length data0))), (10, (eInt .i64 i10)), (13, (eInt .i64 a1))]) (.eq (by kernel_rfl)) ?_
          refine E_done (thenA_normal (?_))
          refine C_block (id := 2) (by kernel_rfl) (by kernel_rfl) ?_
          refine C_has (l := [(0, (.msl 2 lo0p 0 (List.length data0))), (10, (eInt .i64 i10)), (13, (eInt .i64 a1))]) (.eq (by kernel_rfl)) ?_
          refine C_cut (fun T H => ∃ data0 : List api_Jump, ∃ k13 : Int, Has T [(0, (.msl 2 lo0p 0 (List.length data0))), (10, (eInt .i64 i10)), (13, (eInt .i64 k13))] ∧ Owns ⟨H0, [lo0p]⟩ H [(lo0p, 2, List.map e_api_Jump data0)] ∧ List.length data0 = N0 ∧ slices_symMergeCmpFunc_api_Jump_h14 cmp4 rec data0 i10 k13 = some r) ?_ ⟨data0, a1, .eq (by kernel_rfl), hO, hN, h0⟩
          clear hO hN h0
          rintro T H ⟨data0, k13, hT, hO, hN, h0⟩
          refine C_has hT ?_
          clear hT
          unfold slices_symMergeCmpFunc_api_Jump_h14 at h0
          obtain ⟨rr0, hl0, h0⟩ := bindE h0
          refine C_loopS (by kernel_rfl) (fun (s : List api_Jump × Int) T H => Has T [(0, (.msl 2 lo0p 0 (List.length s.1))), (10, (eInt .i64 i10)), (13, (eInt .i64 s.2))] ∧ Owns ⟨H0, [lo0p]⟩ H [(lo0p, 2, List.map e_api_Jump s.1)] ∧ List.length s.1 = N0) hl0 ⟨.eq (by kernel_rfl), hO, hN⟩ ?_
          clear hO hN
          rintro k0 s out1 T H ⟨hT, hO, hN⟩ h1 ho0
          obtain ⟨data0, k13⟩ := s
          replace h1 : slices_symMergeCmpFunc_api_Jump_l14 cmp4 rec i10 data0 k13 = some out1 := h1
          refine C_has (l := [(0, (.msl 2 lo0p 0 (List.length data0))), (10, (eInt .i64 i10)), (13, (eInt .i64 k13))]) hT ?_
          clear hT
          unfold slices_symMergeCmpFunc_api_Jump_l14 at h1
          refine C_seq (by kernel_rfl) ?_
          refine C_seq (by kernel_rfl) ?_
          refine A_cl (C_region ttOk (n := 4) (by kernel_rfl) (by kernel_rfl) ?_)
          refine R_all (Ds := []) (by kernel_rfl) trivial ?_
          refine E_has (l := [(0, (.msl 2 lo0p 0 (List.length data0))), (10, (eInt .i64 i10)), (13, (eInt .i64 k13)), (58, (eBool (decide (k13 < (IntKind.i64.wrap (i10 - (1 : Int)))))))]) (.eq (by kernel_rfl)) ?_
          refine E_done (thenA_normal (?_))
          refine C_cond (b := decide (k13 < (IntKind.i64.wrap (i10 - (1 : Int))))) (by kernel_rfl) (by kernel_rfl) (fun hc41 => ?_) (fun hc41 => ?_)
          · replace h1 := condT hc41 h1
            refine A_cl (C_skip (by kernel_rfl) ?_)
            refine E_has (l := [(0, (.msl 2 lo0p 0 (List.length data0))), (10, (eInt .i64 i10)), (13, (eInt .i64 k13))]) (.eq (by kernel_rfl)) ?_
            refine E_done (thenA_normal (?_))
            refine C_seq (by kernel_rfl) ?_
            refine C_block (id := 3) (by kernel_rfl) (by kernel_rfl) ?_
            refine A_cl (C_draw ttOk (by kernel_rfl) (n := 18) (by kernel_rfl) (by kernel_rfl) (by kernel_rfl) ?_)
            obtain ⟨c37, h1⟩ := asrtE h1
            refine D_pure 9 (by kernel_rfl) (Ds := [0 ≤ (IntKind.i64.wrap (k13 + (1 : Int))) ∧ (IntKind.i64.wrap (k13 + (1 : Int))) < ((List.length data0 : Nat) : Int)]) (by kernel_rfl) ⟨c37, trivial⟩ ?_
            refine D_loadO 0 lo0p 2 (0 + Int.toNat (IntKind.i64.wrap (k13 + (1 : Int)))) (e_api_Jump (List.getD data0 (Int.toNat (IntKind.i64.wrap (k13 + (1 : Int)))) default)) (e_api_Jump (List.getD data0 (Int.toNat (IntKind.i64.wrap (k13 + (1 : Int)))) default)) (List.map e_api_Jump data0) (by kernel_rfl) (by kernel_rfl) (by kernel_rfl) hO (by kernel_rfl) (ownGet c37) ?_
            obtain ⟨c38, h1⟩ := asrtE h1
            refine D_pure 13 (by kernel_rfl) (Ds := [0 ≤ k13 ∧ k13 < ((List.length data0 : Nat) : Int)]) (by kernel_rfl) ⟨c38, trivial⟩ ?_
            refine D_loadO 0 lo0p 2 (0 + Int.toNat k13) (e_api_Jump (List.getD data0 (Int.toNat k13) default)) (e_api_Jump (List.getD data0 (Int.toNat k13) default)) (List.map e_api_Jump data0) (by kernel_rfl) (by kernel_rfl) (by kernel_rfl) hO (by kernel_rfl) (ownGet c38) ?_
            obtain ⟨c39, h1⟩ := asrtE h1
            refine D_pure 15 (by kernel_rfl) (Ds := [0 ≤ k13 ∧ k13 < ((List.length data0 : Nat) : Int)]) (by kernel_rfl) ⟨c39, trivial⟩ ?_
            refine D_storeO 0 lo0p 2 (0 + Int.toNat k13) (e_api_Jump (List.getD data0 (Int.toNat k13) default)) (e_api_Jump (List.getD data0 (Int.toNat (IntKind.i64.wrap (k13 + (1 : Int)))) default)) (List.map e_api_Jump data0) [(lo0p, 2, List.map e_api_Jump (List.set data0 (Int.toNat k13) (List.getD data0 (Int.toNat (IntKind.i64.wrap (k13 + (1 : Int)))) default)))] (by kernel_rfl) (by kernel_rfl) (by kernel_rfl) hO (by kernel_rfl) (ownGet c39) (by simp only [List.set, ownSet]) ?_
            intro H hO
            replace hN : List.length (List.set data0 (Int.toNat k13) (List.getD data0 (Int.toNat (IntKind.i64.wrap (k13 + (1 : Int)))) default)) = N0 := by simpa using hN
            obtain ⟨c40, h1⟩ := asrtE h1
            refine D_pure 17 (by kernel_rfl) (Ds := [0 ≤ (IntKind.i64.wrap (k13 + (1 : Int))) ∧ (IntKind.i64.wrap (k13 + (1 : Int))) < ((List.length data0 : Nat) : Int)]) (by kernel_rfl) ⟨c40, trivial⟩ ?_
            refine D_storeO 0 lo0p 2 (0 + Int.toNat (IntKind.i64.wrap (k13 + (1 : Int)))) (e_api_Jump (List.getD (List.set data0 (Int.toNat k13) (List.getD data0 (Int.toNat (IntKind.i64.wrap (k13 + (1 : Int)))) default)) (Int.toNat (IntKind.i64.wrap (k13 + (1 : Int)))) default)) (e_api_Jump (List.getD data0 (Int.toNat k13) default)) (List.map e_api_Jump (List.set data0 (Int.toNat k13) (List.getD data0 (Int.toNat (IntKind.i64.wrap (k13 + (1 : Int)))) default))) [(lo0p, 2, List.map e_api_Jump (List.set (List.set data0 (Int.toNat k13) (List.getD data0 (Int.toNat (IntKind.i64.wrap (k13 + (1 : Int)))) default)) (Int.toNat (IntKind.i64.wrap (k13 + (1 : Int)))) (List.getD data0 (Int.toNat k13) default)))] (by kernel_rfl) (by kernel_rfl) (by kernel_rfl) hO (by kernel_rfl) (ownGetN c40 (by simp [])) (by simp only [List.set, ownSet]) ?_
            intro H hO
            replace hN : List.length (List.set (List.set data0 (Int.toNat k13) (List.getD data0 (Int.toNat (IntKind.i64.wrap (k13 + (1 : Int)))) default)) (Int.toNat (IntKind.i64.wrap (k13 + (1 : Int)))) (List.getD data0 (Int.toNat k13) default)) = N0 := by simpa using hN
            refine D_end (by kernel_rfl) ?_
            refine E_has (l := [(0, (.msl 2 lo0p 0 (List.length (List.set (List.set data0 (Int.toNat k13) (List.getD data0 (Int.toNat (IntKind.i64.wrap (k13 + (1 : Int)))) default)) (Int.toNat (IntKind.i64.wrap (k13 + (1 : Int)))) (List.getD data0 (Int.toNat k13) default))))), (10, (eInt .i64 i10)), (13, (eInt .i64 k13))]) ⟨[(0, (.msl 2 lo0p 0 (List.length data0))), (10, (eInt .i64 i10)), (13, (eInt .i64 k13))], by kernel_rfl, rfl, ⟨SubV.eq (by simp []), SubV.refl _, SubV.refl _, trivial⟩⟩ ?_
            refine E_done (blockA_normal (thenA_normal (?_)))
            refine A_cl (C_region ttOk (n := 3) (by kernel_rfl) (by kernel_rfl) ?_)
            refine R_all (Ds := []) (by kernel_rfl) trivial ?_
            refine E_has (l := [(0, (.msl 2 lo0p 0 (List.length (List.set (List.set data0 (Int.toNat k13) (List.getD data0 (Int.toNat (IntKind.i64.wrap (k13 + (1 : Int)))) default)) (Int.toNat (IntKind.i64.wrap (k13 + (1 : Int)))) (List.getD data0 (Int.toNat k13) default))))), (10, (eInt .i64 i10)), (13, (eInt .i64 (IntKind.i64.wrap (k13 + (1 : Int)))))]) (.eq (by kernel_rfl)) ?_
            exact E_done (thenA_normal (⟨rfl, (List.set (List.set data0 (Int.toNat k13) (List.getD data0 (Int.toNat (IntKind.i64.wrap (k13 + (1 : Int)))) default)) (Int.toNat (IntKind.i64.wrap (k13 + (1 : Int)))) (List.getD data0 (Int.toNat k13) default), IntKind.i64.wrap (k13 + (1 : Int))), (Option.some.inj h1).symm, .eq (by kernel_rfl), hO, hN⟩))
          · replace h1 := condF hc41 h1
            refine A_cl (C_exit (id := 2) (by kernel_rfl) (by kernel_rfl) ?_)
            refine E_has (l := [(0, (.msl 2 lo0p 0 (List.length data0)))]) (.eq (by kernel_rfl)) ?_
            obtain rfl := Option.some.inj h1
            obtain rfl : _ = rr0 := ho0
            replace h0 : slices_symMergeCmpFunc_api_Jump_j13 cmp4 rec data0 = some r := h0
            exact E_done (thenA_exit (thenA_exit (blockA_hit (thenA_normal (⟨rfl, data0, .eq (by kernel_rfl), hO, hN, h0⟩)))))
      · refine C_block (id := 0) (by kernel_rfl) (by kernel_rfl) ?_
        refine C_has (l := [(0, (.msl 2 lo0p 0 (List.length data0))), (1, (eInt .i64 a1)), (4, (.fn (.func cmp4_f) cmp4_a cmp4_c)), (10, (eInt .i64 m2)), (11, (eInt .i64 b3))]) (.eq (by kernel_rfl)) ?_
        refine C_cut (fun T H => ∃ data0 : List api_Jump, ∃ i10 : Int, ∃ j11 : Int, Has T [(0, (.msl 2 lo0p 0 (List.length data0))), (1, (eInt .i64 a1)), (4, (.fn (.func cmp4_f) cmp4_a cmp4_c)), (10, (eInt .i64 i10)), (11, (eInt .i64 j11))] ∧ Owns ⟨H0, [lo0p]⟩ H [(lo0p, 2, List.map e_api_Jump data0)] ∧ List.length data0 = N0 ∧ slices_symMergeCmpFunc_api_Jump_h15 cmp4 rec data0 a1 i10 j11 = some r) ?_ ⟨data0, m2, b3, .eq (by kernel_rfl), hO, hN, h0⟩
        clear hO hN h0
        rintro T H ⟨data0, i10, j11, hT, hO, hN, h0⟩
        refine C_has hT ?_
        clear hT
        unfold slices_symMergeCmpFunc_api_Jump_h15 at h0
        obtain ⟨rr0, hl0, h0⟩ := bindE h0
        refine C_loopS (by kernel_rfl) (fun (s : List api_Jump × Int × Int) T H => Has T [(0, (.msl 2 lo0p 0 (List.length s.1))), (1, (eInt .i64 a1)), (4, (.fn (.func cmp4_f) cmp4_a cmp4_c)), (10, (eInt .i64 s.2.1)), (11, (eInt .i64 s.2.2))] ∧ Owns ⟨H0, [lo0p]⟩ H [(lo0p, 2, List.map e_api_Jump s.1)] ∧ List.length s.1 = N0) hl0 ⟨.eq (by kernel_rfl), hO, hN⟩ ?_
        clear hO hN
        rintro k0 s out1 T H ⟨hT, hO, hN⟩ h1 ho0
        obtain ⟨data0, i10, j11⟩ := s
        replace h1 : slices_symMergeCmpFunc_api_Jump_l15 cmp4 rec a1 data0 i10 j11 = some out1 := h1
        refine C_has (l := [(0, (.msl 2 lo0p 0 (List.length data0))), (1, (eInt .i64 a1)), (4, (.fn (.func cmp4_f) cmp4_a cmp4_c)), (10, (eInt .i64 i10)), (11, (eInt .i64 j11))]) hT ?_
        clear hT
        unfold slices_symMergeCmpFunc_api_Jump_l15 at h1
        refine C_seq (by kernel_rfl) ?_
        refine C_seq (by kernel_rfl) ?_
        refine A_cl (C_region ttOk (n := 3) (by kernel_rfl) (by kernel_rfl) ?_)
        refine R_all (Ds := []) (by kernel_rfl) trivial ?_
        refine E_has (l := [(0, (.msl 2 lo0p 0 (List.length data0))), (1, (eInt .i64 a1)), (4, (.fn (.func cmp4_f) cmp4_a cmp4_c)), (10, (eInt .i64 i10)), (11, (eInt .i64 j11)), (33, (eBool (decide (i10 < j11))))]) (.eq (by kernel_rfl)) ?_
        refine E_done (thenA_normal (?_))
        refine C_cond (b := decide (i10 < j11)) (by kernel_rfl) (by kernel_rfl) (fun hc49 => ?_) (fun hc49 => ?_)
        · replace h1 := condT hc49 h1
          refine A_cl (C_skip (by kernel_rfl) ?_)
          refine E_has (l := [(0, (.msl 2 lo0p 0 (List.length data0))), (1, (eInt .i64 a1)), (4, (.fn (.func cmp4_f) cmp4_a cmp4_c)), (10, (eInt .i64 i10)), (11, (eInt .i64 j11))]) (.eq (by kernel_rfl)) ?_
          refine E_done (thenA_normal (?_))
          refine C_block (id := 1) (by kernel_rfl) (by kernel_rfl) ?_
          refine C_seq (by kernel_rfl) ?_
          refine A_cl (C_region ttOk (n := 7) (by kernel_rfl) (by kernel_rfl) ?_)
          obtain ⟨c42, h1⟩ := asrtE h1
          refine R_all (Ds := [0 ≤ (1 : Int)]) (by kernel_rfl) ⟨c42, trivial⟩ ?_
          refine E_has (l := [(0, (.msl 2 lo0p 0 (List.length data0))), (1, (eInt .i64 a1)), (4, (.fn (.func cmp4_f) cmp4_a cmp4_c)), (10, (eInt .i64 i10)), (11, (eInt .i64 j11)), (12, (eInt .i64 (IntKind.i64.wrap (Int.fdiv (IntKind.u64.wrap (IntKind.i64.wrap (i10 + j11))) (2 ^ (min (Int.toNat (1 : Int)) 64))))))]) (.eq (by kernel_rfl)) ?_
          refine E_done (thenA_normal (?_))
          refine C_seq (by kernel_rfl) ?_
          refine A_cl (C_draw ttOk (by kernel_rfl) (n := 11) (by kernel_rfl) (by kernel_rfl) (by kernel_rfl) ?_)
          obtain ⟨c43, h1⟩ := asrtE h1
          refine D_pure 4 (by kernel_rfl) (Ds := [0 ≤ (IntKind.i64.wrap (Int.fdiv (IntKind.u64.wrap (IntKind.i64.wrap (i10 + j11))) (2 ^ (min (Int.toNat (1 : Int)) 64)))) ∧ (IntKind.i64.wrap (Int.fdiv (IntKind.u64.wrap (IntKind.i64.wrap (i10 + j11))) (2 ^ (min (Int.toNat (1 : Int)) 64)))) < ((List.length data0 : Nat) : Int)]) (by kernel_rfl) ⟨c43, trivial⟩ ?_
          refine D_loadO 0 lo0p 2 (0 + Int.toNat (IntKind.i64.wrap (Int.fdiv (IntKind.u64.wrap (IntKind.i64.wrap (i10 + j11))) (2 ^ (min (Int.toNat (1 : Int)) 64))))) (e_api_Jump (List.getD data0 (Int.toNat (IntKind.i64.wrap (Int.fdiv (IntKind.u64.wrap (IntKind.i64.wrap (i10 + j11))) (2 ^ (min (Int.toNat (1 : Int)) 64))))) default)) (e_api_Jump (List.getD data0 (Int.toNat (IntKind.i64.wrap (Int.fdiv (IntKind.u64.wrap (IntKind.i64.wrap (i10 + j11))) (2 ^ (min (Int.toNat (1 : Int)) 64))))) default)) (List.map e_api_Jump data0) (by kernel_rfl) (by kernel_rfl) (by kernel_rfl) hO (by kernel_rfl) (ownGet c43) ?_
          obtain ⟨c44, h1⟩ := asrtE h1
          refine D_pure 8 (by kernel_rfl) (Ds := [0 ≤ a1 ∧ a1 < ((List.length data0 : Nat) : Int)]) (by kernel_rfl) ⟨c44, trivial⟩ ?_
          refine D_loadO 0 lo0p 2 (0 + Int.toNat a1) (e_api_Jump (List.getD data0 (Int.toNat a1) default)) (e_api_Jump (List.getD data0 (Int.toNat a1) default)) (List.map e_api_Jump data0) (by kernel_rfl) (by kernel_rfl) (by kernel_rfl) hO (by kernel_rfl) (ownGet c44) ?_
          obtain ⟨x45, hx46, h1⟩ := bindE h1
          refine D_callO cmp4_f (cmp4_a ++ [(e_api_Jump (List.getD data0 (Int.toNat (IntKind.i64.wrap (Int.fdiv (IntKind.u64.wrap (IntKind.i64.wrap (i10 + j11))) (2 ^ (min (Int.toNat (1 : Int)) 64))))) default)), (e_api_Jump (List.getD data0 (Int.toNat a1) default))] ++ cmp4_c) (eInt .i64 x45) (by kernel_rfl) (by kernel_rfl) (cmp4_h (List.getD data0 (Int.toNat (IntKind.i64.wrap (Int.fdiv (IntKind.u64.wrap (IntKind.i64.wrap (i10 + j11))) (2 ^ (min (Int.toNat (1 : Int)) 64))))) default) (List.getD data0 (Int.toNat a1) default) _ hx46) hO ?_
          intro H hO
          refine D_all (Ds := []) (by kernel_rfl) trivial ?_
          refine E_has (l := [(0, (.msl 2 lo0p 0 (List.length data0))), (1, (eInt .i64 a1)), (4, (.fn (.func cmp4_f) cmp4_a cmp4_c)), (10, (eInt .i64 i10)), (11, (eInt .i64 j11)), (12, (eInt .i64 (IntKind.i64.wrap (Int.fdiv (IntKind.u64.wrap (IntKind.i64.wrap (i10 + j11))) (2 ^ (min (Int.toNat (1 : Int)) 64)))))), (50, (eBool (decide (x45 < (0 : Int)))))]) (.eq (by kernel_rfl)) ?_
          refine E_done (thenA_normal (?_))
          refine C_cond (b := decide (x45 < (0 : Int))) (by kernel_rfl) (by kernel_rfl) (fun hc48 => ?_) (fun hc48 => ?_)
          · replace h1 := condT hc48 h1
            refine A_cl (C_region ttOk (n := 3) (by kernel_rfl) (by kernel_rfl) ?_)
            refine R_all (Ds := []) (by kernel_rfl) trivial ?_
            refine E_has (l := [(0, (.msl 2 lo0p 0 (List.length data0))), (1, (eInt .i64 a1)), (4, (.fn (.func cmp4_f) cmp4_a cmp4_c)), (10, (eInt .i64 (IntKind.i64.wrap ((IntKind.i64.wrap (Int.fdiv (IntKind.u64.wrap (IntKind.i64.wrap (i10 + j11))) (2 ^ (min (Int.toNat (1 : Int)) 64)))) + (1 : Int))))), (11, (eInt .i64 j11))]) (.eq (by kernel_rfl)) ?_
            exact E_done (blockA_normal (thenA_normal (⟨rfl, (data0, IntKind.i64.wrap ((IntKind.i64.wrap (Int.fdiv (IntKind.u64.wrap (IntKind.i64.wrap (i10 + j11))) (2 ^ (min (Int.toNat (1 : Int)) 64)))) + (1 : Int)), j11), (Option.some.inj h1).symm, .eq (by kernel_rfl), hO, hN⟩)))
          · replace h1 := condF hc48 h1
            refine A_cl (C_region ttOk (n := 2) (by kernel_rfl) (by kernel_rfl) ?_)
            refine R_all (Ds := []) (by kernel_rfl) trivial ?_
            refine E_has (l := [(0, (.msl 2 lo0p 0 (List.length data0))), (1, (eInt .i64 a1)), (4, (.fn (.func cmp4_f) cmp4_a cmp4_c)), (10, (eInt .i64 i10)), (11, (eInt .i64 (IntKind.i64.wrap (Int.fdiv (IntKind.u64.wrap (IntKind.i64.wrap (i10 + j11))) (2 ^ (min (Int.toNat (1 : Int)) 64))))))]) (.eq (by kernel_rfl)) ?_
            exact E_done (blockA_normal (thenA_normal (⟨rfl, (data0, i10, IntKind.i64.wrap (Int.fdiv (IntKind.u64.wrap (IntKind.i64.wrap (i10 + j11))) (2 ^ (min (Int.toNat (1 : Int)) 64)))), (Option.some.inj h1).symm, .eq (by kernel_rfl), hO, hN⟩)))
        · replace h1 := condF hc49 h1
          refine A_cl (C_exit (id := 0) (by kernel_rfl) (by kernel_rfl) ?_)
          refine E_has (l := [(0, (.msl 2 lo0p 0 (List.length data0))), (1, (eInt .i64 a1)), (10, (eInt .i64 i10))]) (.eq (by kernel_rfl)) ?_
          obtain rfl := Option.some.inj h1
          obtain rfl : _ = rr0 := ho0
          replace h0 : slices_symMergeCmpFunc_api_Jump_j12 cmp4 rec data0 a1 i10 = some r := h0
          exact E_done (thenA_exit (thenA_exit (blockA_hit (thenA_normal (⟨rfl, data0, i10, .eq (by kernel_rfl), hO, hN, h0⟩)))))
    · replace h0 := condF hc50 h0
      refine A_cl (C_skip (by kernel_rfl) ?_)
      refine E_has (l := [(0, (.msl 2 lo0p 0 (List.length data0))), (1, (eInt .i64 a1)), (2, (eInt .i64 m2)), (3, (eInt .i64 b3)), (4, (.fn (.func cmp4_f) cmp4_a cmp4_c))]) (.eq (by kernel_rfl)) ?_
      exact E_done (thenA_normal (⟨rfl, data0, .eq (by kernel_rfl), hO, hN, h0⟩))
theorem w_slices_symMergeCmpFunc_api_Jump_at (cmp4_f : Nat) (cmp4_a cmp4_c : List V) (cmp4 : api_Jump → api_Jump → Option Int) (cmp4_h : ∀ a0 a1 r, cmp4 a0 a1 = some r → Fine Try.prog cmp4_f (cmp4_a ++ [(e_api_Jump a0), (e_api_Jump a1)] ++ cmp4_c) (eInt .i64 r)) : ∀ (k : Nat) (lo0p : Nat) (data0 : (List api_Jump)) (a1 : Int) (m2 : Int) (b3 : Int) (r : List api_Jump), slices_symMergeCmpFunc_api_Jump_at cmp4 k data0 a1 m2 b3 = some r → FineI Try.prog 53 lo0p 2 (List.map e_api_Jump data0) (List.map e_api_Jump r) [(.msl 2 lo0p 0 (List.length data0)), (eInt .i64 a1), (eInt .i64 m2), (eInt .i64 b3), (.fn (.func cmp4_f) cmp4_a cmp4_c)] (.tup [])
  | 0, _, _, _, _, _, _, h => by cases h
  | k + 1, lo0p, data0, a1, m2, b3, r, h => w_slices_symMergeCmpFunc_api_Jump_step cmp4_f cmp4_a cmp4_c cmp4 cmp4_h _ (w_slices_symMergeCmpFunc_api_Jump_at cmp4_f cmp4_a cmp4_c cmp4 cmp4_h k) lo0p data0 a1 m2 b3 r h
theorem w_slices_symMergeCmpFunc_api_Jump (lo0p : Nat) (data0 : (List api_Jump)) (a1 : Int) (m2 : Int) (b3 : Int) (cmp4_f : Nat) (cmp4_a cmp4_c : List V) (cmp4 : api_Jump → api_Jump → Option Int) (cmp4_h : ∀ a0 a1 r, cmp4 a0 a1 = some r → Fine Try.prog cmp4_f (cmp4_a ++ [(e_api_Jump a0), (e_api_Jump a1)] ++ cmp4_c) (eInt .i64 r)) (r : List api_Jump) (h0 : s_slices_symMergeCmpFunc_api_Jump data0 a1 m2 b3 cmp4 = some r) : FineI Try.prog 53 lo0p 2 (List.map e_api_Jump data0) (List.map e_api_Jump r) [(.msl 2 lo0p 0 (List.length data0)), (eInt .i64 a1), (eInt .i64 m2), (eInt .i64 b3), (.fn (.func cmp4_f) cmp4_a cmp4_c)] (.tup []) := by
  obtain ⟨k, hk⟩ := fixN_some h0
  exact w_slices_symMergeCmpFunc_api_Jump_at cmp4_f cmp4_a cmp4_c cmp4 cmp4_h k lo0p data0 a1 m2 b3 r hk

theorem w_slices_stableCmpFunc_api_Jump (lo0p : Nat) (data0 : (List api_Jump)) (n1 : Int) (cmp2_f : Nat) (cmp2_a cmp2_c : List V) (cmp2 : api_Jump → api_Jump → Option Int) (cmp2_h : ∀ a0 a1 r, cmp2 a0 a1 = some r → Fine Try.prog cmp2_f (cmp2_a ++ [(e_api_Jump a0), (e_api_Jump a1)] ++ cmp2_c) (eInt .i64 r)) (r : List api_Jump) (h0 : s_slices_stableCmpFunc_api_Jump data0 n1 cmp2 = some r) : FineI Try.prog 50 lo0p 2 (List.map e_api_Jump data0) (List.map e_api_Jump r) [(.msl 2 lo0p 0 (List.length data0)), (eInt .i64 n1), (.fn (.func cmp2_f) cmp2_a cmp2_c)] (.tup []) := by
  intro H0 hl0
  refine F_walk Try.func50 (by kernel_rfl) (by kernel_rfl) (by kernel_rfl) ?_
  have hO := Owns.start1 hl0
  clear hl0
  obtain ⟨N0, hN0⟩ : ∃ n, n = List.length data0 := ⟨_, rfl⟩
  have hN : List.length data0 = N0 := hN0.symm
  unfold s_slices_stableCmpFunc_api_Jump at h0
  refine C_seq (by kernel_rfl) ?_
  refine A_cl (C_region ttOk (n := 1) (by kernel_rfl) (by kernel_rfl) ?_)
  refine R_all (Ds := []) (by kernel_rfl) trivial ?_
  refine E_has (l := [(0, (.msl 2 lo0p 0 (List.length data0))), (1, (eInt .i64 n1)), (2, (.fn (.func cmp2_f) cmp2_a cmp2_c)), (6, (eInt .i64 (20 : Int)))]) (.eq (by kernel_rfl)) ?_
  refine E_done (thenA_normal (?_))
  refine C_seq (by kernel_rfl) ?_
  refine A_cl (C_region ttOk (n := 3) (by kernel_rfl) (by kernel_rfl) ?_)
  refine R_all (Ds := []) (by kernel_rfl) trivial ?_
  refine E_has (l := [(0, (.msl 2 lo0p 0 (List.length data0))), (1, (eInt .i64 n1)), (2, (.fn (.func cmp2_f) cmp2_a cmp2_c)), (6, (eInt .i64 (20 : Int))), (7, (eInt .i64 (0 : Int))), (8, (eInt .i64 (20 : Int)))]) (.eq (by kernel_rfl)) ?_
  refine E_done (thenA_normal (?_))
  refine C_seqJ (by kernel_rfl) (fun T H => ∃ data0 : List api_Jump, ∃ blockSize6 : Int, ∃ a7 : Int, Has T [(0, (.msl 2 lo0p 0 (List.length data0))), (1, (eInt .i64 n1)), (2, (.fn (.func cmp2_f) cmp2_a cmp2_c)), (6, (eInt .i64 blockSize6)), (7, (eInt .i64 a7))] ∧ Owns ⟨H0, [lo0p]⟩ H [(lo0p, 2, List.map e_api_Jump data0)] ∧ List.length data0 = N0 ∧ slices_stableCmpFunc_api_Jump_j1 cmp2 data0 n1 blockSize6 a7 = some r) ?_ ?_
  · clear hO hN h0
    rintro T H ⟨data0, blockSize6, a7, hT, hO, hN, h0⟩
    refine C_has hT ?_
    clear hT
    unfold slices_stableCmpFunc_api_Jump_j1 at h0
    refine C_seq (by kernel_rfl) ?_
    refine A_cl (C_region ttOk (n := 5) (by kernel_rfl) (by kernel_rfl) ?_)
    refine R_pure 4 (by kernel_rfl) (Ds := []) (by kernel_rfl) trivial ?_
    obtain ⟨x1, hx2, h0⟩ := bindE h0
    refine R_callI (L' := [(lo0p, 2, List.map e_api_Jump x1)]) 0 lo0p 2 (List.map e_api_Jump data0) (List.map e_api_Jump x1) 52 [(.msl 2 lo0p 0 (List.length data0)), (eInt .i64 a7), (eInt .i64 n1), (.fn (.func cmp2_f) cmp2_a cmp2_c)] (.tup []) (by kernel_rfl) (by kernel_rfl) (w_slices_insertionSortCmpFunc_api_Jump lo0p data0 a7 n1 cmp2_f cmp2_a cmp2_c cmp2 cmp2_h _ hx2) hO (by kernel_rfl) (by kernel_rfl) ?_
    intro H hO hl3
    simp only [List.length_map] at hl3
    replace hN := hl3.trans hN
    refine R_end (by kernel_rfl) ?_
    refine E_has (l := [(0, (.msl 2 lo0p 0 (List.length x1))), (1, (eInt .i64 n1)), (2, (.fn (.func cmp2_f) cmp2_a cmp2_c)), (6, (eInt .i64 blockSize6))]) ⟨[(0, (.msl 2 lo0p 0 (List.length data0))), (1, (eInt .i64 n1)), (2, (.fn (.func cmp2_f) cmp2_a cmp2_c)), (6, (eInt .i64 blockSize6))], by kernel_rfl, rfl, ⟨SubV.eq (by simp [hl3]), SubV.refl _, SubV.refl _, SubV.refl _, trivial⟩⟩ ?_
    refine E_done (thenA_normal (?_))
    refine C_block (id := 2) (by kernel_rfl) (by kernel_rfl) ?_
    refine C_has (l := [(0, (.msl 2 lo0p 0 (List.length x1))), (1, (eInt .i64 n1)), (2, (.fn (.func cmp2_f) cmp2_a cmp2_c)), (6, (eInt .i64 blockSize6))]) (.eq (by kernel_rfl)) ?_
    refine C_cut (fun T H => ∃ data0 : List api_Jump, ∃ blockSize6 : Int, Has T [(0, (.msl 2 lo0p 0 (List.length data0))), (1, (eInt .i64 n1)), (2, (.fn (.func cmp2_f) cmp2_a cmp2_c)), (6, (eInt .i64 blockSize6))] ∧ Owns ⟨H0, [lo0p]⟩ H [(lo0p, 2, List.map e_api_Jump data0)] ∧ List.length data0 = N0 ∧ slices_stableCmpFunc_api_Jump_h2 cmp2 data0 n1 blockSize6 = some r) ?_ ⟨x1, blockSize6, .eq (by kernel_rfl), hO, hN, h0⟩
    clear hO hN h0
    rintro T H ⟨data0, blockSize6, hT, hO, hN, h0⟩
    refine C_has hT ?_
    clear hT
    unfold slices_stableCmpFunc_api_Jump_h2 at h0
    obtain ⟨rr0, hl0, h0⟩ := bindE h0
    refine C_loopS (by kernel_rfl) (fun (s : List api_Jump × Int) T H => Has T [(0, (.msl 2 lo0p 0 (List.length s.1))), (1, (eInt .i64 n1)), (2, (.fn (.func cmp2_f) cmp2_a cmp2_c)), (6, (eInt .i64 s.2))] ∧ Owns ⟨H0, [lo0p]⟩ H [(lo0p, 2, List.map e_api_Jump s.1)] ∧ List.length s.1 = N0) hl0 ⟨.eq (by kernel_rfl), hO, hN⟩ ?_
    clear hO hN
    rintro k0 s out1 T H ⟨hT, hO, hN⟩ h1 ho0
    obtain ⟨data0, blockSize6⟩ := s
    replace h1 : slices_stableCmpFunc_api_Jump_l2 cmp2 n1 data0 blockSize6 = some out1 := h1
    refine C_has (l := [(0, (.msl 2 lo0p 0 (List.length data0))), (1, (eInt .i64 n1)), (2, (.fn (.func cmp2_f) cmp2_a cmp2_c)), (6, (eInt .i64 blockSize6))]) hT ?_
    clear hT
    unfold slices_stableCmpFunc_api_Jump_l2 at h1
    refine C_seq (by kernel_rfl) ?_
    refine C_seq (by kernel_rfl) ?_
    refine A_cl (C_region ttOk (n := 3) (by kernel_rfl) (by kernel_rfl) ?_)
    refine R_all (Ds := []) (by kernel_rfl) trivial ?_
    refine E_has (l := [(0, (.msl 2 lo0p 0 (List.length data0))), (1, (eInt .i64 n1)), (2, (.fn (.func cmp2_f) cmp2_a cmp2_c)), (6, (eInt .i64 blockSize6)), (30, (eBool (decide (blockSize6 < n1))))]) (.eq (by kernel_rfl)) ?_
    refine E_done (thenA_normal (?_))
    refine C_cond (b := decide (blockSize6 < n1)) (by kernel_rfl) (by kernel_rfl) (fun hc12 => ?_) (fun hc12 => ?_)
    · replace h1 := condT hc12 h1
      refine A_cl (C_skip (by kernel_rfl) ?_)
      refine E_has (l := [(0, (.msl 2 lo0p 0 (List.length data0))), (1, (eInt .i64 n1)), (2, (.fn (.func cmp2_f) cmp2_a cmp2_c)), (6, (eInt .i64 blockSize6))]) (.eq (by kernel_rfl)) ?_
      refine E_done (thenA_normal (?_))
      refine C_block (id := 3) (by kernel_rfl) (by kernel_rfl) ?_
      refine C_seq (by kernel_rfl) ?_
      refine A_cl (C_region ttOk (n := 4) (by kernel_rfl) (by kernel_rfl) ?_)
      refine R_all (Ds := []) (by kernel_rfl) trivial ?_
      refine E_has (l := [(0, (.msl 2 lo0p 0 (List.length data0))), (1, (eInt .i64 n1)), (2, (.fn (.func cmp2_f) cmp2_a cmp2_c)), (6, (eInt .i64 blockSize6)), (7, (eInt .i64 (0 : Int))), (8, (eInt .i64 (IntKind.i64.wrap ((2 : Int) * blockSize6))))]) (.eq (by kernel_rfl)) ?_
      refine E_done (thenA_normal (?_))
      refine C_seqJ (by kernel_rfl) (fun T H => ∃ data0 : List api_Jump, ∃ a7 : Int, Has T [(0, (.msl 2 lo0p 0 (List.length data0))), (1, (eInt .i64 n1)), (2, (.fn (.func cmp2_f) cmp2_a cmp2_c)), (6, (eInt .i64 blockSize6)), (7, (eInt .i64 a7))] ∧ Owns ⟨H0, [lo0p]⟩ H [(lo0p, 2, List.map e_api_Jump data0)] ∧ List.length data0 = N0 ∧ slices_stableCmpFunc_api_Jump_j3 cmp2 data0 n1 blockSize6 a7 = some out1) ?_ ?_
      · clear hO hN h1
        rintro T H ⟨data0, a7, hT, hO, hN, h1⟩
        refine C_has hT ?_
        clear hT
        unfold slices_stableCmpFunc_api_Jump_j3 at h1
        refine C_seqJ (by kernel_rfl) (fun T H => ∃ data0 : List api_Jump, Has T [(0, (.msl 2 lo0p 0 (List.length data0))), (1, (eInt .i64 n1)), (2, (.fn (.func cmp2_f) cmp2_a cmp2_c)), (6, (eInt .i64 blockSize6))] ∧ Owns ⟨H0, [lo0p]⟩ H [(lo0p, 2, List.map e_api_Jump data0)] ∧ List.length data0 = N0 ∧ slices_stableCmpFunc_api_Jump_j4 cmp2 data0 n1 blockSize6 = some out1) ?_ ?_
        · clear hO hN h1
          rintro T H ⟨data0, hT, hO, hN, h1⟩
          refine C_has hT ?_
          clear hT
          unfold slices_stableCmpFunc_api_Jump_j4 at h1
          refine A_cl (C_region ttOk (n := 3) (by kernel_rfl) (by kernel_rfl) ?_)
          refine R_all (Ds := []) (by kernel_rfl) trivial ?_
          refine E_has (l := [(0, (.msl 2 lo0p 0 (List.length data0))), (1, (eInt .i64 n1)), (2, (.fn (.func cmp2_f) cmp2_a cmp2_c)), (6, (eInt .i64 (IntKind.i64.wrap (blockSize6 * (2 : Int)))))]) (.eq (by kernel_rfl)) ?_
          exact E_done (blockA_normal (thenA_normal (⟨rfl, (data0, IntKind.i64.wrap (blockSize6 * (2 : Int))), (Option.some.inj h1).symm, .eq (by kernel_rfl), hO, hN⟩)))
        · refine C_seq (by kernel_rfl) ?_
          refine A_cl (C_region ttOk (n := 4) (by kernel_rfl) (by kernel_rfl) ?_)
          refine R_all (Ds := []) (by kernel_rfl) trivial ?_
          refine E_has (l := [(0, (.msl 2 lo0p 0 (List.length data0))), (1, (eInt .i64 n1)), (2, (.fn (.func cmp2_f) cmp2_a cmp2_c)), (6, (eInt .i64 blockSize6)), (7, (eInt .i64 a7)), (9, (eInt .i64 (IntKind.i64.wrap (a7 + blockSize6))))]) (.eq (by kernel_rfl)) ?_
          refine E_done (thenA_normal (?_))
          refine C_seq (by kernel_rfl) ?_
          refine A_cl (C_region ttOk (n := 3) (by kernel_rfl) (by kernel_rfl) ?_)
          refine R_all (Ds := []) (by kernel_rfl) trivial ?_
          refine E_has (l := [(0, (.msl 2 lo0p 0 (List.length data0))), (1, (eInt .i64 n1)), (2, (.fn (.func cmp2_f) cmp2_a cmp2_c)), (6, (eInt .i64 blockSize6)), (7, (eInt .i64 a7)), (9, (eInt .i64 (IntKind.i64.wrap (a7 + blockSize6)))), (54, (eBool (decide ((IntKind.i64.wrap (a7 + blockSize6)) < n1))))]) (.eq (by kernel_rfl)) ?_
          refine E_done (thenA_normal (?_))
          refine C_cond (b := decide ((IntKind.i64.wrap (a7 + blockSize6)) < n1)) (by kernel_rfl) (by kernel_rfl) (fun hc7 => ?_) (fun hc7 => ?_)
          · replace h1 := condT hc7 h1
            refine A_cl (C_region ttOk (n := 6) (by kernel_rfl) (by kernel_rfl) ?_)
            refine R_pure 5 (by kernel_rfl) (Ds := []) (by kernel_rfl) trivial ?_
            obtain ⟨x4, hx5, h1⟩ := bindE h1
            refine R_callI (L' := [(lo0p, 2, List.map e_api_Jump x4)]) 0 lo0p 2 (List.map e_api_Jump data0) (List.map e_api_Jump x4) 53 [(.msl 2 lo0p 0 (List.length data0)), (eInt .i64 a7), (eInt .i64 (IntKind.i64.wrap (a7 + blockSize6))), (eInt .i64 n1), (.fn (.func cmp2_f) cmp2_a cmp2_c)] (.tup []) (by kernel_rfl) (by kernel_rfl) (w_slices_symMergeCmpFunc_api_Jump lo0p data0 a7 (IntKind.i64.wrap (a7 + blockSize6)) n1 cmp2_f cmp2_a cmp2_c cmp2 cmp2_h _ hx5) hO (by kernel_rfl) (by kernel_rfl) ?_
            intro H hO hl6
            simp only [List.length_map] at hl6
            replace hN := hl6.trans hN
            refine R_end (by kernel_rfl) ?_
            refine E_has (l := [(0, (.msl 2 lo0p 0 (List.length x4))), (1, (eInt .i64 n1)), (2, (.fn (.func cmp2_f) cmp2_a cmp2_c)), (6, (eInt .i64 blockSize6))]) ⟨[(0, (.msl 2 lo0p 0 (List.length data0))), (1, (eInt .i64 n1)), (2, (.fn (.func cmp2_f) cmp2_a cmp2_c)), (6, (eInt .i64 blockSize6))], by kernel_rfl, rfl, ⟨SubV.eq (by simp [hl6]), SubV.refl _, SubV.refl _, SubV.refl _, trivial⟩⟩ ?_
            exact E_done (thenA_normal (⟨rfl, x4, .eq (by kernel_rfl), hO, hN, h1⟩))
          · replace h1 := condF hc7 h1
            refine A_cl (C_skip (by kernel_rfl) ?_)
            refine E_has (l := [(0, (.msl 2 lo0p 0 (List.length data0))), (1, (eInt .i64 n1)), (2, (.fn (.func cmp2_f) cmp2_a cmp2_c)), (6, (eInt .i64 blockSize6))]) (.eq (by kernel_rfl)) ?_
            exact E_done (thenA_normal (⟨rfl, data0, .eq (by kernel_rfl), hO, hN, h1⟩))
      · refine C_block (id := 4) (by kernel_rfl) (by kernel_rfl) ?_
        refine C_has (l := [(0, (.msl 2 lo0p 0 (List.length data0))), (1, (eInt .i64 n1)), (2, (.fn (.func cmp2_f) cmp2_a cmp2_c)), (6, (eInt .i64 blockSize6)), (7, (eInt .i64 (0 : Int))), (8, (eInt .i64 (IntKind.i64.wrap ((2 : Int) * blockSize6))))]) (.eq (by kernel_rfl)) ?_
        refine C_cut (fun T H => ∃ data0 : List api_Jump, ∃ a7 : Int, ∃ b8 : Int, Has T [(0, (.msl 2 lo0p 0 (List.length data0))), (1, (eInt .i64 n1)), (2, (.fn (.func cmp2_f) cmp2_a cmp2_c)), (6, (eInt .i64 blockSize6)), (7, (eInt .i64 a7)), (8, (eInt .i64 b8))] ∧ Owns ⟨H0, [lo0p]⟩ H [(lo0p, 2, List.map e_api_Jump data0)] ∧ List.length data0 = N0 ∧ slices_stableCmpFunc_api_Jump_h5 cmp2 data0 n1 blockSize6 a7 b8 = some out1) ?_ ⟨data0, (0 : Int), IntKind.i64.wrap ((2 : Int) * blockSize6), .eq (by kernel_rfl), hO, hN, h1⟩
        clear hO hN h1
        rintro T H ⟨data0, a7, b8, hT, hO, hN, h1⟩
        refine C_has hT ?_
        clear hT
        unfold slices_stableCmpFunc_api_Jump_h5 at h1
        obtain ⟨rr1, hl1, h1⟩ := bindE h1
        refine C_loopS (by kernel_rfl) (fun (s : List api_Jump × Int × Int) T H => Has T [(0, (.msl 2 lo0p 0 (List.length s.1))), (1, (eInt .i64 n1)), (2, (.fn (.func cmp2_f) cmp2_a cmp2_c)), (6, (eInt .i64 blockSize6)), (7, (eInt .i64 s.2.1)), (8, (eInt .i64 s.2.2))] ∧ Owns ⟨H0, [lo0p]⟩ H [(lo0p, 2, List.map e_api_Jump s.1)] ∧ List.length s.1 = N0) hl1 ⟨.eq (by kernel_rfl), hO, hN⟩ ?_
        clear hO hN
        rintro k1 s out2 T H ⟨hT, hO, hN⟩ h2 ho1
        obtain ⟨data0, a7, b8⟩ := s
        replace h2 : slices_stableCmpFunc_api_Jump_l5 cmp2 n1 blockSize6 data0 a7 b8 = some out2 := h2
        refine C_has (l := [(0, (.msl 2 lo0p 0 (List.length data0))), (1, (eInt .i64 n1)), (2, (.fn (.func cmp2_f) cmp2_a cmp2_c)), (6, (eInt .i64 blockSize6)), (7, (eInt .i64 a7)), (8, (eInt .i64 b8))]) hT ?_
        clear hT
        unfold slices_stableCmpFunc_api_Jump_l5 at h2
        refine C_seq (by kernel_rfl) ?_
        refine C_seq (by kernel_rfl) ?_
        refine A_cl (C_region ttOk (n := 3) (by kernel_rfl) (by kernel_rfl) ?_)
        refine R_all (Ds := []) (by kernel_rfl) trivial ?_
        refine E_has (l := [(0, (.msl 2 lo0p 0 (List.length data0))), (1, (eInt .i64 n1)), (2, (.fn (.func cmp2_f) cmp2_a cmp2_c)), (6, (eInt .i64 blockSize6)), (7, (eInt .i64 a7)), (8, (eInt .i64 b8)), (35, (eBool (decide (b8 ≤ n1))))]) (.eq (by kernel_rfl)) ?_
        refine E_done (thenA_normal (?_))
        refine C_cond (b := decide (b8 ≤ n1)) (by kernel_rfl) (by kernel_rfl) (fun hc11 => ?_) (fun hc11 => ?_)
        · replace h2 := condT hc11 h2
          refine A_cl (C_skip (by kernel_rfl) ?_)
          refine E_has (l := [(0, (.msl 2 lo0p 0 (List.length data0))), (1, (eInt .i64 n1)), (2, (.fn (.func cmp2_f) cmp2_a cmp2_c)), (6, (eInt .i64 blockSize6)), (7, (eInt .i64 a7)), (8, (eInt .i64 b8))]) (.eq (by kernel_rfl)) ?_
          refine E_done (thenA_normal (?_))
          refine C_block (id := 5) (by kernel_rfl) (by kernel_rfl) ?_
          refine C_seq (by kernel_rfl) ?_
          refine A_cl (C_region ttOk (n := 8) (by kernel_rfl) (by kernel_rfl) ?_)
          refine R_pure 7 (by kernel_rfl) (Ds := []) (by kernel_rfl) trivial ?_
          obtain ⟨x8, hx9, h2⟩ := bindE h2
          refine R_callI (L' := [(lo0p, 2, List.map e_api_Jump x8)]) 0 lo0p 2 (List.map e_api_Jump data0) (List.map e_api_Jump x8) 53 [(.msl 2 lo0p 0 (List.length data0)), (eInt .i64 a7), (eInt .i64 (IntKind.i64.wrap (a7 + blockSize6))), (eInt .i64 b8), (.fn (.func cmp2_f) cmp2_a cmp2_c)] (.tup []) (by kernel_rfl) (by kernel_rfl) (w_slices_symMergeCmpFunc_api_Jump lo0p data0 a7 (IntKind.i64.wrap (a7 + blockSize6)) b8 cmp2_f cmp2_a cmp2_c cmp2 cmp2_h _ hx9) hO (by kernel_rfl) (by kernel_rfl) ?_
          intro H hO hl10
          simp only [List.length_map] at hl10
          replace hN := hl10.trans hN
          refine R_end (by kernel_rfl) ?_
          refine E_has (l := [(0, (.msl 2 lo0p 0 (List.length x8))), (1, (eInt .i64 n1)), (2, (.fn (.func cmp2_f) cmp2_a cmp2_c)), (6, (eInt .i64 blockSize6)), (8, (eInt .i64 b8))]) ⟨[(0, (.msl 2 lo0p 0 (List.length data0))), (1, (eInt .i64 n1)), (2, (.fn (.func cmp2_f) cmp2_a cmp2_c)), (6, (eInt .i64 blockSize6)), (8, (eInt .i64 b8))], by kernel_rfl, rfl, ⟨SubV.eq (by simp [hl10]), SubV.refl _, SubV.refl _, SubV.refl _, SubV.refl _, trivial⟩⟩ ?_
          refine E_done (thenA_normal (?_))
          refine C_seq (by kernel_rfl) ?_
          refine A_cl (C_region ttOk (n := 2) (by kernel_rfl) (by kernel_rfl) ?_)
          refine R_all (Ds := []) (by kernel_rfl) trivial ?_
          refine E_has (l := [(0, (.msl 2 lo0p 0 (List.length x8))), (1, (eInt .i64 n1)), (2, (.fn (.func cmp2_f) cmp2_a cmp2_c)), (6, (eInt .i64 blockSize6)), (7, (eInt .i64 b8)), (8, (eInt .i64 b8))]) (.eq (by kernel_rfl)) ?_
          refine E_done (thenA_normal (?_))
          refine A_cl (C_region ttOk (n := 5) (by kernel_rfl) (by kernel_rfl) ?_)
          refine R_all (Ds := []) (by kernel_rfl) trivial ?_
          refine E_has (l := [(0, (.msl 2 lo0p 0 (List.length x8))), (1, (eInt .i64 n1)), (2, (.fn (.func cmp2_f) cmp2_a cmp2_c)), (6, (eInt .i64 blockSize6)), (7, (eInt .i64 b8)), (8, (eInt .i64 (IntKind.i64.wrap (b8 + (IntKind.i64.wrap ((2 : Int) * blockSize6))))))]) (.eq (by kernel_rfl)) ?_
          exact E_done (blockA_normal (thenA_normal (⟨rfl, (x8, b8, IntKind.i64.wrap (b8 + (IntKind.i64.wrap ((2 : Int) * blockSize6)))), (Option.some.inj h2).symm, .eq (by kernel_rfl), hO, hN⟩)))
        · replace h2 := condF hc11 h2
          refine A_cl (C_exit (id := 4) (by kernel_rfl) (by kernel_rfl) ?_)
          refine E_has (l := [(0, (.msl 2 lo0p 0 (List.length data0))), (1, (eInt .i64 n1)), (2, (.fn (.func cmp2_f) cmp2_a cmp2_c)), (6, (eInt .i64 blockSize6)), (7, (eInt .i64 a7))]) (.eq (by kernel_rfl)) ?_
          obtain rfl := Option.some.inj h2
          obtain rfl : _ = rr1 := ho1
          replace h1 : slices_stableCmpFunc_api_Jump_j3 cmp2 data0 n1 blockSize6 a7 = some out1 := h1
          exact E_done (thenA_exit (thenA_exit (blockA_hit (thenA_normal (⟨rfl, data0, a7, .eq (by kernel_rfl), hO, hN, h1⟩)))))
    · replace h1 := condF hc12 h1
      refine A_cl (C_exit (id := 2) (by kernel_rfl) (by kernel_rfl) ?_)
      refine E_has (l := [(0, (.msl 2 lo0p 0 (List.length data0)))]) (.eq (by kernel_rfl)) ?_
      obtain rfl := Option.some.inj h1
      obtain rfl : _ = rr0 := ho0
      replace h0 : some data0 = some r := h0
      obtain rfl := Option.some.inj h0
      exact E_done (thenA_exit (thenA_exit (blockA_hit (Q_end (x := (.tup [])) (by kernel_rfl) (SubV.refl _) ⟨rfl, hO.ext, hO.at 0 (by kernel_rfl), by simp only [List.length_map]; exact hN.trans hN0⟩))))
  · refine C_block (id := 0) (by kernel_rfl) (by kernel_rfl) ?_
    refine C_has (l := [(0, (.msl 2 lo0p 0 (List.length data0))), (1, (eInt .i64 n1)), (2, (.fn (.func cmp2_f) cmp2_a cmp2_c)), (6, (eInt .i64 (20 : Int))), (7, (eInt .i64 (0 : Int))), (8, (eInt .i64 (20 : Int)))]) (.eq (by kernel_rfl)) ?_
    refine C_cut (fun T H => ∃ data0 : List api_Jump, ∃ blockSize6 : Int, ∃ a7 : Int, ∃ b8 : Int, Has T [(0, (.msl 2 lo0p 0 (List.length data0))), (1, (eInt .i64 n1)), (2, (.fn (.func cmp2_f) cmp2_a cmp2_c)), (6, (eInt .i64 blockSize6)), (7, (eInt .i64 a7)), (8, (eInt .i64 b8))] ∧ Owns ⟨H0, [lo0p]⟩ H [(lo0p, 2, List.map e_api_Jump data0)] ∧ List.length data0 = N0 ∧ slices_stableCmpFunc_api_Jump_h6 cmp2 data0 n1 blockSize6 a7 b8 = some r) ?_ ⟨data0, (20 : Int), (0 : Int), (20 : Int), .eq (by kernel_rfl), hO, hN, h0⟩
    clear hO hN h0
    rintro T H ⟨data0, blockSize6, a7, b8, hT, hO, hN, h0⟩
    refine C_has hT ?_
    clear hT
    unfold slices_stableCmpFunc_api_Jump_h6 at h0
    obtain ⟨rr0, hl0, h0⟩ := bindE h0
    refine C_loopS (by kernel_rfl) (fun (s : List api_Jump × Int × Int) T H => Has T [(0, (.msl 2 lo0p 0 (List.length s.1))), (1, (eInt .i64 n1)), (2, (.fn (.func cmp2_f) cmp2_a cmp2_c)), (6, (eInt .i64 blockSize6)), (7, (eInt .i64 s.2.1)), (8, (eInt .i64 s.2.2))] ∧ Owns ⟨H0, [lo0p]⟩ H [(lo0p, 2, List.map e_api_Jump s.1)] ∧ List.length s.1 = N0) hl0 ⟨.eq (by kernel_rfl), hO, hN⟩ ?_
    clear hO hN
    rintro k0 s out1 T H ⟨hT, hO, hN⟩ h1 ho0
    obtain ⟨data0, a7, b8⟩ := s
    replace h1 : slices_stableCmpFunc_api_Jump_l6 cmp2 n1 blockSize6 data0 a7 b8 = some out1 := h1
    refine C_has (l := [(0, (.msl 2 lo0p 0 (List.length data0))), (1, (eInt .i64 n1)), (2, (.fn (.func cmp2_f) cmp2_a cmp2_c)), (6, (eInt .i64 blockSize6)), (7, (eInt .i64 a7)), (8, (eInt .i64 b8))]) hT ?_
    clear hT
    unfold slices_stableCmpFunc_api_Jump_l6 at h1
    refine C_seq (by kernel_rfl) ?_
    refine C_seq (by kernel_rfl) ?_
    refine A_cl (C_region ttOk (n := 3) (by kernel_rfl) (by kernel_rfl) ?_)
    refine R_all (Ds := []) (by kernel_rfl) trivial ?_
    refine E_has (l := [(0, (.msl 2 lo0p 0 (List.length data0))), (1, (eInt .i64 n1)), (2, (.fn (.func cmp2_f) cmp2_a cmp2_c)), (6, (eInt .i64 blockSize6)), (7, (eInt .i64 a7)), (8, (eInt .i64 b8)), (13, (eBool (decide (b8 ≤ n1))))]) (.eq (by kernel_rfl)) ?_
    refine E_done (thenA_normal (?_))
    refine C_cond (b := decide (b8 ≤ n1)) (by kernel_rfl) (by kernel_rfl) (fun hc16 => ?_) (fun hc16 => ?_)
    · replace h1 := condT hc16 h1
      refine A_cl (C_skip (by kernel_rfl) ?_)
      refine E_has (l := [(0, (.msl 2 lo0p 0 (List.length data0))), (1, (eInt .i64 n1)), (2, (.fn (.func cmp2_f) cmp2_a cmp2_c)), (6, (eInt .i64 blockSize6)), (7, (eInt .i64 a7)), (8, (eInt .i64 b8))]) (.eq (by kernel_rfl)) ?_
      refine E_done (thenA_normal (?_))
      refine C_block (id := 1) (by kernel_rfl) (by kernel_rfl) ?_
      refine C_seq (by kernel_rfl) ?_
      refine A_cl (C_region ttOk (n := 5) (by kernel_rfl) (by kernel_rfl) ?_)
      refine R_pure 4 (by kernel_rfl) (Ds := []) (by kernel_rfl) trivial ?_
      obtain ⟨x13, hx14, h1⟩ := bindE h1
      refine R_callI (L' := [(lo0p, 2, List.map e_api_Jump x13)]) 0 lo0p 2 (List.map e_api_Jump data0) (List.map e_api_Jump x13) 52 [(.msl 2 lo0p 0 (List.length data0)), (eInt .i64 a7), (eInt .i64 b8), (.fn (.func cmp2_f) cmp2_a cmp2_c)] (.tup []) (by kernel_rfl) (by kernel_rfl) (w_slices_insertionSortCmpFunc_api_Jump lo0p data0 a7 b8 cmp2_f cmp2_a cmp2_c cmp2 cmp2_h _ hx14) hO (by kernel_rfl) (by kernel_rfl) ?_
      intro H hO hl15
      simp only [List.length_map] at hl15
      replace hN := hl15.trans hN
      refine R_end (by kernel_rfl) ?_
      refine E_has (l := [(0, (.msl 2 lo0p 0 (List.length x13))), (1, (eInt .i64 n1)), (2, (.fn (.func cmp2_f) cmp2_a cmp2_c)), (6, (eInt .i64 blockSize6)), (8, (eInt .i64 b8))]) ⟨[(0, (.msl 2 lo0p 0 (List.length data0))), (1, (eInt .i64 n1)), (2, (.fn (.func cmp2_f) cmp2_a cmp2_c)), (6, (eInt .i64 blockSize6)), (8, (eInt .i64 b8))], by kernel_rfl, rfl, ⟨SubV.eq (by simp [hl15]), SubV.refl _, SubV.refl _, SubV.refl _, SubV.refl _, trivial⟩⟩ ?_
      refine E_done (thenA_normal (?_))
      refine C_seq (by kernel_rfl) ?_
      refine A_cl (C_region ttOk (n := 2) (by kernel_rfl) (by kernel_rfl) ?_)
      refine R_all (Ds := []) (by kernel_rfl) trivial ?_
      refine E_has (l := [(0, (.msl 2 lo0p 0 (List.length x13))), (1, (eInt .i64 n1)), (2, (.fn (.func cmp2_f) cmp2_a cmp2_c)), (6, (eInt .i64 blockSize6)), (7, (eInt .i64 b8)), (8, (eInt .i64 b8))]) (.eq (by kernel_rfl)) ?_
      refine E_done (thenA_normal (?_))
      refine A_cl (C_region ttOk (n := 4) (by kernel_rfl) (by kernel_rfl) ?_)
      refine R_all (Ds := []) (by kernel_rfl) trivial ?_
      refine E_has (l := [(0, (.msl 2 lo0p 0 (List.length x13))), (1, (eInt .i64 n1)), (2, (.fn (.func cmp2_f) cmp2_a cmp2_c)), (6, (eInt .i64 blockSize6)), (7, (eInt .i64 b8)), (8, (eInt .i64 (IntKind.i64.wrap (b8 + blockSize6))))]) (.eq (by kernel_rfl)) ?_
      exact E_done (blockA_normal (thenA_normal (⟨rfl, (x13, b8, IntKind.i64.wrap (b8 + blockSize6)), (Option.some.inj h1).symm, .eq (by kernel_rfl), hO, hN⟩)))
    · replace h1 := condF hc16 h1
      refine A_cl (C_exit (id := 0) (by kernel_rfl) (by kernel_rfl) ?_)
      refine E_has (l := [(0, (.msl 2 lo0p 0 (List.length data0))), (1, (eInt .i64 n1)), (2, (.fn (.func cmp2_f) cmp2_a cmp2_c)), (6, (eInt .i64 blockSize6)), (7, (eInt .i64 a7))]) (.eq (by kernel_rfl)) ?_
      obtain rfl := Option.some.inj h1
      obtain rfl : _ = rr0 := ho0
      replace h0 : slices_stableCmpFunc_api_Jump_j1 cmp2 data0 n1 blockSize6 a7 = some r := h0
      exact E_done (thenA_exit (thenA_exit (blockA_hit (thenA_normal (⟨rfl, data0, blockSize6, a7, .eq (by kernel_rfl), hO, hN, h0⟩)))))

theorem w_slices_SortStableFunc_api_Jump_api_Jump (lo0p : Nat) (x0 : (List api_Jump)) (cmp1_f : Nat) (cmp1_a cmp1_c : List V) (cmp1 : api_Jump → api_Jump → Option Int) (cmp1_h : ∀ a0 a1 r, cmp1 a0 a1 = some r → Fine Try.prog cmp1_f (cmp1_a ++ [(e_api_Jump a0), (e_api_Jump a1)] ++ cmp1_c) (eInt .i64 r)) (r : List api_Jump) (h0 : s_slices_SortStableFunc_api_Jump_api_Jump x0 cmp1 = some r) : FineI Try.prog 36 lo0p 2 (List.map e_api_Jump x0) (List.map e_api_Jump r) [(.msl 2 lo0p 0 (List.length x0)), (.fn (.func cmp1_f) cmp1_a cmp1_c)] (.tup []) := by
  intro H0 hl0
  refine F_walk Try.func36 (by kernel_rfl) (by kernel_rfl) (by kernel_rfl) ?_
  have hO := Owns.start1 hl0
  clear hl0
  obtain ⟨N0, hN0⟩ : ∃ n, n = List.length x0 := ⟨_, rfl⟩
  have hN : List.length x0 = N0 := hN0.symm
  unfold s_slices_SortStableFunc_api_Jump_api_Jump at h0
  refine A_cl (C_region ttOk (n := 5) (by kernel_rfl) (by kernel_rfl) ?_)
  refine R_pure 4 (by kernel_rfl) (Ds := []) (by kernel_rfl) trivial ?_
  obtain ⟨x1, hx2, h0⟩ := bindE h0
  refine R_callI (L' := [(lo0p, 2, List.map e_api_Jump x1)]) 0 lo0p 2 (List.map e_api_Jump x0) (List.map e_api_Jump x1) 50 [(.msl 2 lo0p 0 (List.length x0)), (eInt .i64 ((List.length x0 : Nat) : Int)), (.fn (.func cmp1_f) cmp1_a cmp1_c)] (.tup []) (by kernel_rfl) (by kernel_rfl) (w_slices_stableCmpFunc_api_Jump lo0p x0 ((List.length x0 : Nat) : Int) cmp1_f cmp1_a cmp1_c cmp1 cmp1_h _ hx2) hO (by kernel_rfl) (by kernel_rfl) ?_
  intro H hO hl3
  simp only [List.length_map] at hl3
  replace hN := hl3.trans hN
  refine R_end (by kernel_rfl) ?_
  refine E_has (l := [(0, (.msl 2 lo0p 0 (List.length x1)))]) ⟨[(0, (.msl 2 lo0p 0 (List.length x0)))], by kernel_rfl, rfl, ⟨SubV.eq (by simp [hl3]), trivial⟩⟩ ?_
  obtain rfl := Option.some.inj h0
  exact E_done (Q_end (x := (.tup [])) (by kernel_rfl) (SubV.refl _) ⟨rfl, hO.ext, hO.at 0 (by kernel_rfl), by simp only [List.length_map]; exact hN.trans hN0⟩)

theorem w_cmp_isNaN_int (x0 : Int) (r : Bool) (h0 : s_cmp_isNaN_int x0 = some r) : Fine Try.prog 51 [(eInt .i64 x0)] (eBool r) := by
  intro H0
  refine F_walk Try.func51 (by kernel_rfl) (by kernel_rfl) (by kernel_rfl) ?_
  have hO := Owns.start H0
  unfold s_cmp_isNaN_int at h0
  refine C_seq (by kernel_rfl) ?_
  refine A_cl (C_region ttOk (n := 1) (by kernel_rfl) (by kernel_rfl) ?_)
  refine R_all (Ds := []) (by kernel_rfl) trivial ?_
  refine E_has (l := [(0, (eInt .i64 x0))]) (.eq (by kernel_rfl)) ?_
  refine E_done (thenA_normal (?_))
  refine C_seq (by kernel_rfl) ?_
  refine A_cl (C_region ttOk (n := 4) (by kernel_rfl) (by kernel_rfl) ?_)
  refine R_all (Ds := []) (by kernel_rfl) trivial ?_
  refine E_has (l := [(2, (eBool (!decide (x0 = x0))))]) (.eq (by kernel_rfl)) ?_
  refine E_done (thenA_normal (?_))
  refine A_cl (C_ret (by kernel_rfl) ?_)
  refine E_has (l := [(2, (eBool (!decide (x0 = x0))))]) (.eq (by kernel_rfl)) ?_
  obtain rfl := Option.some.inj h0
  exact E_done (Q_ret (x := (eBool (!decide (x0 = x0)))) (by kernel_rfl) (SubV.refl _) ⟨rfl, hO.out⟩)

theorem w_cmp_Compare_int (x0 : Int) (y1 : Int) (r : Int) (h0 : s_cmp_Compare_int x0 y1 = some r) : Fine Try.prog 38 [(eInt .i64 x0), (eInt .i64 y1)] (eInt .i64 r) := by
  intro H0
  refine F_walk Try.func38 (by kernel_rfl) (by kernel_rfl) (by kernel_rfl) ?_
  have hO := Owns.start H0
  unfold s_cmp_Compare_int at h0
  refine C_seq (by kernel_rfl) ?_
  refine A_cl (C_region ttOk (n := 1) (by kernel_rfl) (by kernel_rfl) ?_)
  refine R_all (Ds := []) (by kernel_rfl) trivial ?_
  refine E_has (l := [(0, (eInt .i64 x0)), (1, (eInt .i64 y1))]) (.eq (by kernel_rfl)) ?_
  refine E_done (thenA_normal (?_))
  refine C_seq (by kernel_rfl) ?_
  refine A_cl (C_region ttOk (n := 3) (by kernel_rfl) (by kernel_rfl) ?_)
  refine R_pure 1 (by kernel_rfl) (Ds := []) (by kernel_rfl) trivial ?_
  obtain ⟨x1, hx2, h0⟩ := bindE h0
  refine R_callO [] 51 [(eInt .i64 x0)] (eBool x1) true (by kernel_rfl) (by kernel_rfl) (by kernel_rfl) (fun hb3 => (w_cmp_isNaN_int x0 _ hx2)) hO ?_
  intro H hO
  refine R_all (Ds := []) (by kernel_rfl) trivial ?_
  refine E_has (l := [(0, (eInt .i64 x0)), (1, (eInt .i64 y1)), (5, (eBool x1))]) (.eq (by kernel_rfl)) ?_
  refine E_done (thenA_normal (?_))
  refine C_seq (by kernel_rfl) ?_
  refine A_cl (C_region ttOk (n := 3) (by kernel_rfl) (by kernel_rfl) ?_)
  refine R_pure 1 (by kernel_rfl) (Ds := []) (by kernel_rfl) trivial ?_
  obtain ⟨x4, hx5, h0⟩ := bindE h0
  refine R_callO [] 51 [(eInt .i64 y1)] (eBool x4) true (by kernel_rfl) (by kernel_rfl) (by kernel_rfl) (fun hb6 => (w_cmp_isNaN_int y1 _ hx5)) hO ?_
  intro H hO
  refine R_all (Ds := []) (by kernel_rfl) trivial ?_
  refine E_has (l := [(0, (eInt .i64 x0)), (1, (eInt .i64 y1)), (5, (eBool x1)), (6, (eBool x4))]) (.eq (by kernel_rfl)) ?_
  refine E_done (thenA_normal (?_))
  refine C_seq (by kernel_rfl) ?_
  refine C_seq (by kernel_rfl) ?_
  refine A_cl (C_region ttOk (n := 1) (by kernel_rfl) (by kernel_rfl) ?_)
  refine R_all (Ds := []) (by kernel_rfl) trivial ?_
  refine E_has (l := [(0, (eInt .i64 x0)), (1, (eInt .i64 y1)), (6, (eBool x4)), (11, (eBool x1))]) (.eq (by kernel_rfl)) ?_
  refine E_done (thenA_normal (?_))
  refine C_cond (b := x1) (by kernel_rfl) (by kernel_rfl) (fun hc11 => ?_) (fun hc11 => ?_)
  · replace h0 := condT hc11 h0
    refine C_seq (by kernel_rfl) ?_
    refine C_seq (by kernel_rfl) ?_
    refine A_cl (C_region ttOk (n := 1) (by kernel_rfl) (by kernel_rfl) ?_)
    refine R_all (Ds := []) (by kernel_rfl) trivial ?_
    refine E_has (l := [(12, (eBool x4))]) (.eq (by kernel_rfl)) ?_
    refine E_done (thenA_normal (?_))
    refine C_cond (b := x4) (by kernel_rfl) (by kernel_rfl) (fun hc7 => ?_) (fun hc7 => ?_)
    · replace h0 := condT hc7 h0
      refine C_seq (by kernel_rfl) ?_
      refine A_cl (C_region ttOk (n := 1) (by kernel_rfl) (by kernel_rfl) ?_)
      refine R_all (Ds := []) (by kernel_rfl) trivial ?_
      refine E_has (l := [(4, (eInt .i64 (0 : Int)))]) (.eq (by kernel_rfl)) ?_
      refine E_done (thenA_normal (?_))
      refine A_cl (C_ret (by kernel_rfl) ?_)
      refine E_has (l := [(4, (eInt .i64 (0 : Int)))]) (.eq (by kernel_rfl)) ?_
      obtain rfl := Option.some.inj h0
      exact E_done (thenA_ret (thenA_ret (Q_ret (x := (eInt .i64 (0 : Int))) (by kernel_rfl) (SubV.refl _) ⟨rfl, hO.out⟩)))
    · replace h0 := condF hc7 h0
      refine A_cl (C_skip (by kernel_rfl) ?_)
      refine E_has (l := []) (.eq (by kernel_rfl)) ?_
      refine E_done (thenA_normal (?_))
      refine C_seq (by kernel_rfl) ?_
      refine A_cl (C_region ttOk (n := 1) (by kernel_rfl) (by kernel_rfl) ?_)
      refine R_all (Ds := []) (by kernel_rfl) trivial ?_
      refine E_has (l := [(4, (eInt .i64 (-1 : Int)))]) (.eq (by kernel_rfl)) ?_
      refine E_done (thenA_normal (?_))
      refine A_cl (C_ret (by kernel_rfl) ?_)
      refine E_has (l := [(4, (eInt .i64 (-1 : Int)))]) (.eq (by kernel_rfl)) ?_
      obtain rfl := Option.some.inj h0
      exact E_done (thenA_ret (Q_ret (x := (eInt .i64 (-1 : Int))) (by kernel_rfl) (SubV.refl _) ⟨rfl, hO.out⟩))
  · replace h0 := condF hc11 h0
    refine A_cl (C_skip (by kernel_rfl) ?_)
    refine E_has (l := [(0, (eInt .i64 x0)), (1, (eInt .i64 y1)), (6, (eBool x4))]) (.eq (by kernel_rfl)) ?_
    refine E_done (thenA_normal (?_))
    refine C_seq (by kernel_rfl) ?_
    refine C_seq (by kernel_rfl) ?_
    refine A_cl (C_region ttOk (n := 1) (by kernel_rfl) (by kernel_rfl) ?_)
    refine R_all (Ds := []) (by kernel_rfl) trivial ?_
    refine E_has (l := [(0, (eInt .i64 x0)), (1, (eInt .i64 y1)), (13, (eBool x4))]) (.eq (by kernel_rfl)) ?_
    refine E_done (thenA_normal (?_))
    refine C_cond (b := x4) (by kernel_rfl) (by kernel_rfl) (fun hc10 => ?_) (fun hc10 => ?_)
    · replace h0 := condT hc10 h0
      refine C_seq (by kernel_rfl) ?_
      refine A_cl (C_region ttOk (n := 1) (by kernel_rfl) (by kernel_rfl) ?_)
      refine R_all (Ds := []) (by kernel_rfl) trivial ?_
      refine E_has (l := [(4, (eInt .i64 (1 : Int)))]) (.eq (by kernel_rfl)) ?_
      refine E_done (thenA_normal (?_))
      refine A_cl (C_ret (by kernel_rfl) ?_)
      refine E_has (l := [(4, (eInt .i64 (1 : Int)))]) (.eq (by kernel_rfl)) ?_
      obtain rfl := Option.some.inj h0
      exact E_done (thenA_ret (Q_ret (x := (eInt .i64 (1 : Int))) (by kernel_rfl) (SubV.refl _) ⟨rfl, hO.out⟩))
    · replace h0 := condF hc10 h0
      refine A_cl (C_skip (by kernel_rfl) ?_)
      refine E_has (l := [(0, (eInt .i64 x0)), (1, (eInt .i64 y1))]) (.eq (by kernel_rfl)) ?_
      refine E_done (thenA_normal (?_))
      refine C_seq (by kernel_rfl) ?_
      refine C_seq (by kernel_rfl) ?_
      refine A_cl (C_region ttOk (n := 3) (by kernel_rfl) (by kernel_rfl) ?_)
      refine R_all (Ds := []) (by kernel_rfl) trivial ?_
      refine E_has (l := [(0, (eInt .i64 x0)), (1, (eInt .i64 y1)), (16, (eBool (decide (x0 < y1))))]) (.eq (by kernel_rfl)) ?_
      refine E_done (thenA_normal (?_))
      refine C_cond (b := decide (x0 < y1)) (by kernel_rfl) (by kernel_rfl) (fun hc9 => ?_) (fun hc9 => ?_)
      · replace h0 := condT hc9 h0
        refine C_seq (by kernel_rfl) ?_
        refine A_cl (C_region ttOk (n := 1) (by kernel_rfl) (by kernel_rfl) ?_)
        refine R_all (Ds := []) (by kernel_rfl) trivial ?_
        refine E_has (l := [(4, (eInt .i64 (-1 : Int)))]) (.eq (by kernel_rfl)) ?_
        refine E_done (thenA_normal (?_))
        refine A_cl (C_ret (by kernel_rfl) ?_)
        refine E_has (l := [(4, (eInt .i64 (-1 : Int)))]) (.eq (by kernel_rfl)) ?_
        obtain rfl := Option.some.inj h0
        exact E_done (thenA_ret (Q_ret (x := (eInt .i64 (-1 : Int))) (by kernel_rfl) (SubV.refl _) ⟨rfl, hO.out⟩))
      · replace h0 := condF hc9 h0
        refine A_cl (C_skip (by kernel_rfl) ?_)
        refine E_has (l := [(0, (eInt .i64 x0)), (1, (eInt .i64 y1))]) (.eq (by kernel_rfl)) ?_
        refine E_done (thenA_normal (?_))
        refine C_seq (by kernel_rfl) ?_
        refine C_seq (by kernel_rfl) ?_
        refine A_cl (C_region ttOk (n := 3) (by kernel_rfl) (by kernel_rfl) ?_)
        refine R_all (Ds := []) (by kernel_rfl) trivial ?_
        refine E_has (l := [(19, (eBool (decide (y1 < x0))))]) (.eq (by kernel_rfl)) ?_
        refine E_done (thenA_normal (?_))
        refine C_cond (b := decide (y1 < x0)) (by kernel_rfl) (by kernel_rfl) (fun hc8 => ?_) (fun hc8 => ?_)
        · replace h0 := condT hc8 h0
          refine C_seq (by kernel_rfl) ?_
          refine A_cl (C_region ttOk (n := 1) (by kernel_rfl) (by kernel_rfl) ?_)
          refine R_all (Ds := []) (by kernel_rfl) trivial ?_
          refine E_has (l := [(4, (eInt .i64 (1 : Int)))]) (.eq (by kernel_rfl)) ?_
          refine E_done (thenA_normal (?_))
          refine A_cl (C_ret (by kernel_rfl) ?_)
          refine E_has (l := [(4, (eInt .i64 (1 : Int)))]) (.eq (by kernel_rfl)) ?_
          obtain rfl := Option.some.inj h0
          exact E_done (thenA_ret (Q_ret (x := (eInt .i64 (1 : Int))) (by kernel_rfl) (SubV.refl _) ⟨rfl, hO.out⟩))
        · replace h0 := condF hc8 h0
          refine A_cl (C_skip (by kernel_rfl) ?_)
          refine E_has (l := []) (.eq (by kernel_rfl)) ?_
          refine E_done (thenA_normal (?_))
          refine C_seq (by kernel_rfl) ?_
          refine A_cl (C_region ttOk (n := 1) (by kernel_rfl) (by kernel_rfl) ?_)
          refine R_all (Ds := []) (by kernel_rfl) trivial ?_
          refine E_has (l := [(4, (eInt .i64 (0 : Int)))]) (.eq (by kernel_rfl)) ?_
          refine E_done (thenA_normal (?_))
          refine A_cl (C_ret (by kernel_rfl) ?_)
          refine E_has (l := [(4, (eInt .i64 (0 : Int)))]) (.eq (by kernel_rfl)) ?_
          obtain rfl := Option.some.inj h0
          exact E_done (Q_ret (x := (eInt .i64 (0 : Int))) (by kernel_rfl) (SubV.refl _) ⟨rfl, hO.out⟩)

theorem w_step_Norm_3 (a0 : api_Jump) (b1 : api_Jump) (r : Int) (h0 : s_step_Norm_3 a0 b1 = some r) : Fine Try.prog 37 [(e_api_Jump a0), (e_api_Jump b1)] (eInt .i64 r) := by
  intro H0
  refine F_walk Try.func37 (by kernel_rfl) (by kernel_rfl) (by kernel_rfl) ?_
  have hO := Owns.start H0
  unfold s_step_Norm_3 at h0
  refine C_seq (by kernel_rfl) ?_
  refine A_cl (C_region ttOk (n := 3) (by kernel_rfl) (by kernel_rfl) ?_)
  refine R_allocO 2 (e_api_Jump a0) (by kernel_rfl) (by kernel_rfl) hO ?_
  intro lo1 H hO
  refine R_allocO 2 (e_api_Jump b1) (by kernel_rfl) (by kernel_rfl) hO ?_
  intro lo2 H hO
  refine R_all (Ds := []) (by kernel_rfl) trivial ?_
  refine E_has (l := [(2, (.lp lo1 0 0)), (3, (.lp lo2 0 0))]) (.eq (by kernel_rfl)) ?_
  refine E_done (thenA_normal (?_))
  refine C_seq (by kernel_rfl) ?_
  refine A_cl (C_region ttOk (n := 6) (by kernel_rfl) (by kernel_rfl) ?_)
  refine R_pure 1 (by kernel_rfl) (Ds := []) (by kernel_rfl) trivial ?_
  refine R_loadO [] 0 lo1 2 0 (e_api_Jump a0) (eInt .i64 a0.At) [(e_api_Jump a0)] (by kernel_rfl) (by kernel_rfl) hO (by kernel_rfl) true (by kernel_rfl) (fun _ => rfl) ?_
  refine R_pure 3 (by kernel_rfl) (Ds := []) (by kernel_rfl) trivial ?_
  refine R_loadO [] 1 lo2 2 0 (e_api_Jump b1) (eInt .i64 b1.At) [(e_api_Jump b1)] (by kernel_rfl) (by kernel_rfl) hO (by kernel_rfl) true (by kernel_rfl) (fun _ => rfl) ?_
  obtain ⟨x3, hx4, h0⟩ := bindE h0
  refine R_callO [] 38 [(eInt .i64 a0.At), (eInt .i64 b1.At)] (eInt .i64 x3) true (by kernel_rfl) (by kernel_rfl) (by kernel_rfl) (fun hb5 => (w_cmp_Compare_int a0.At b1.At _ hx4)) hO ?_
  intro H hO
  refine R_all (Ds := []) (by kernel_rfl) trivial ?_
  refine E_has (l := [(4, (eInt .i64 x3))]) (.eq (by kernel_rfl)) ?_
  replace hO := hO.pick (L' := []) [] (by decide) (by kernel_rfl)
  refine E_done (thenA_normal (?_))
  refine A_cl (C_ret (by kernel_rfl) ?_)
  refine E_has (l := [(4, (eInt .i64 x3))]) (.eq (by kernel_rfl)) ?_
  obtain rfl := Option.some.inj h0
  exact E_done (Q_ret (x := (eInt .i64 x3)) (by kernel_rfl) (SubV.refl _) ⟨rfl, hO.out⟩)

theorem w_step_May (f0 : (List api_Jump)) (r : Bool) (h0 : s_step_May f0 = some r) : Fine Try.prog 15 [(eL e_api_Jump f0)] (eBool r) := by
  intro H0
  refine F_walk Try.func15 (by kernel_rfl) (by kernel_rfl) (by kernel_rfl) ?_
  have hO := Owns.start H0
  unfold s_step_May at h0
  refine C_seq (by kernel_rfl) ?_
  refine A_cl (C_region ttOk (n := 1) (by kernel_rfl) (by kernel_rfl) ?_)
  refine R_all (Ds := []) (by kernel_rfl) trivial ?_
  refine E_has (l := [(0, (eL e_api_Jump f0))]) (.eq (by kernel_rfl)) ?_
  refine E_done (thenA_normal (?_))
  refine C_seq (by kernel_rfl) ?_
  refine C_seq (by kernel_rfl) ?_
  refine A_cl (C_region ttOk (n := 3) (by kernel_rfl) (by kernel_rfl) ?_)
  refine R_all (Ds := []) (by kernel_rfl) trivial ?_
  refine E_has (l := [(0, (eL e_api_Jump f0)), (8, (eBool (decide ((1024 : Int) < ((List.length f0 : Nat) : Int)))))]) (.eq (by kernel_rfl)) ?_
  refine E_done (thenA_normal (?_))
  refine C_cond (b := decide ((1024 : Int) < ((List.length f0 : Nat) : Int))) (by kernel_rfl) (by kernel_rfl) (fun hc11 => ?_) (fun hc11 => ?_)
  · replace h0 := condT hc11 h0
    refine C_seq (by kernel_rfl) ?_
    refine A_cl (C_region ttOk (n := 1) (by kernel_rfl) (by kernel_rfl) ?_)
    refine R_all (Ds := []) (by kernel_rfl) trivial ?_
    refine E_has (l := [(2, (eBool false))]) (.eq (by kernel_rfl)) ?_
    refine E_done (thenA_normal (?_))
    refine A_cl (C_ret (by kernel_rfl) ?_)
    refine E_has (l := [(2, (eBool false))]) (.eq (by kernel_rfl)) ?_
    obtain rfl := Option.some.inj h0
    exact E_done (thenA_ret (Q_ret (x := (eBool false)) (by kernel_rfl) (SubV.refl _) ⟨rfl, hO.out⟩))
  · replace h0 := condF hc11 h0
    refine A_cl (C_skip (by kernel_rfl) ?_)
    refine E_has (l := [(0, (eL e_api_Jump f0))]) (.eq (by kernel_rfl)) ?_
    refine E_done (thenA_normal (?_))
    refine C_seq (by kernel_rfl) ?_
    refine A_cl (C_region ttOk (n := 1) (by kernel_rfl) (by kernel_rfl) ?_)
    refine R_all (Ds := []) (by kernel_rfl) trivial ?_
    refine E_has (l := [(0, (eL e_api_Jump f0)), (3, (eInt .i64 (-2 : Int)))]) (.eq (by kernel_rfl)) ?_
    refine E_done (thenA_normal (?_))
    refine C_seqJ (by kernel_rfl) (fun T H => Has T [] ∧ Owns ⟨H0, []⟩ H [] ∧ step_May_j1  = some r) ?_ ?_
    · clear hO h0
      rintro T H ⟨hT, hO, h0⟩
      refine C_has hT ?_
      clear hT
      unfold step_May_j1 at h0
      refine C_seq (by kernel_rfl) ?_
      refine A_cl (C_region ttOk (n := 1) (by kernel_rfl) (by kernel_rfl) ?_)
      refine R_all (Ds := []) (by kernel_rfl) trivial ?_
      refine E_has (l := [(2, (eBool true))]) (.eq (by kernel_rfl)) ?_
      refine E_done (thenA_normal (?_))
      refine A_cl (C_ret (by kernel_rfl) ?_)
      refine E_has (l := [(2, (eBool true))]) (.eq (by kernel_rfl)) ?_
      obtain rfl := Option.some.inj h0
      exact E_done (Q_ret (x := (eBool true)) (by kernel_rfl) (SubV.refl _) ⟨rfl, hO.out⟩)
    · refine C_seq (by kernel_rfl) ?_
      refine A_cl (C_region ttOk (n := 3) (by kernel_rfl) (by kernel_rfl) ?_)
      refine R_all (Ds := []) (by kernel_rfl) trivial ?_
      refine E_has (l := [(3, (eInt .i64 (-2 : Int))), (9, (eL e_api_Jump f0)), (10, (eInt .i64 ((List.length f0 : Nat) : Int))), (11, (eInt .i64 (0 : Int)))]) (.eq (by kernel_rfl)) ?_
      refine E_done (thenA_normal (?_))
      refine C_block (id := 0) (by kernel_rfl) (by kernel_rfl) ?_
      refine C_has (l := [(3, (eInt .i64 (-2 : Int))), (9, (eL e_api_Jump f0)), (10, (eInt .i64 ((List.length f0 : Nat) : Int))), (11, (eInt .i64 (0 : Int)))]) (.eq (by kernel_rfl)) ?_
      refine C_cut (fun T H => ∃ last3 : Int, ∃ t9 : (List api_Jump), ∃ t10 : Int, ∃ t11 : Int, Has T [(3, (eInt .i64 last3)), (9, (eL e_api_Jump t9)), (10, (eInt .i64 t10)), (11, (eInt .i64 t11))] ∧ Owns ⟨H0, []⟩ H [] ∧ step_May_h2 last3 t9 t10 t11 = some r) ?_ ⟨(-2 : Int), f0, ((List.length f0 : Nat) : Int), (0 : Int), .eq (by kernel_rfl), hO, h0⟩
      clear hO h0
      rintro T H ⟨last3, t9, t10, t11, hT, hO, h0⟩
      refine C_has hT ?_
      clear hT
      unfold step_May_h2 at h0
      obtain ⟨rr0, hl0, h0⟩ := bindE h0
      refine C_loopS (by kernel_rfl) (fun (s : Int × Int) T H => Has T [(3, (eInt .i64 s.1)), (9, (eL e_api_Jump t9)), (10, (eInt .i64 t10)), (11, (eInt .i64 s.2))] ∧ Owns ⟨H0, []⟩ H []) hl0 ⟨.eq (by kernel_rfl), hO⟩ ?_
      clear hO
      rintro k0 s out1 T H ⟨hT, hO⟩ h1 ho0
      obtain ⟨last3, t11⟩ := s
      replace h1 : step_May_l2 t9 t10 last3 t11 = some out1 := h1
      refine C_has (l := [(3, (eInt .i64 last3)), (9, (eL e_api_Jump t9)), (10, (eInt .i64 t10)), (11, (eInt .i64 t11))]) hT ?_
      clear hT
      unfold step_May_l2 at h1
      refine C_seq (by kernel_rfl) ?_
      refine A_cl (C_region ttOk (n := 1) (by kernel_rfl) (by kernel_rfl) ?_)
      refine R_all (Ds := []) (by kernel_rfl) trivial ?_
      refine E_has (l := [(3, (eInt .i64 last3)), (9, (eL e_api_Jump t9)), (10, (eInt .i64 t10)), (11, (eInt .i64 t11)), (12, (eBool (decide (t11 < t10))))]) (.eq (by kernel_rfl)) ?_
      refine E_done (thenA_normal (?_))
      refine C_seq (by kernel_rfl) ?_
      refine C_cond (b := decide (t11 < t10)) (by kernel_rfl) (by kernel_rfl) (fun hc10 => ?_) (fun hc10 => ?_)
      · replace h1 := condT hc10 h1
        refine A_cl (C_skip (by kernel_rfl) ?_)
        refine E_has (l := [(3, (eInt .i64 last3)), (9, (eL e_api_Jump t9)), (10, (eInt .i64 t10)), (11, (eInt .i64 t11))]) (.eq (by kernel_rfl)) ?_
        refine E_done (thenA_normal (?_))
        refine C_seq (by kernel_rfl) ?_
        refine C_block (id := 1) (by kernel_rfl) (by kernel_rfl) ?_
        refine C_seq (by kernel_rfl) ?_
        refine A_cl (C_region ttOk (n := 4) (by kernel_rfl) (by kernel_rfl) ?_)
        obtain ⟨c1, h1⟩ := asrtE h1
        refine R_pure 2 (by kernel_rfl) (Ds := [0 ≤ t11 ∧ t11 < ((List.length t9 : Nat) : Int)]) (by kernel_rfl) ⟨c1, trivial⟩ ?_
        refine R_allocO 2 (e_api_Jump (api_Jump.mk 0 0)) (by kernel_rfl) (by kernel_rfl) hO ?_
        intro lo2 H hO
        refine R_storeOL 0 lo2 2 0 (e_api_Jump (api_Jump.mk 0 0)) (e_api_Jump (List.getD t9 (Int.toNat t11) default)) [(e_api_Jump (api_Jump.mk 0 0))] [(lo2, 2, [(e_api_Jump (List.getD t9 (Int.toNat t11) default))])] (by kernel_rfl) (by kernel_rfl) (by kernel_rfl) hO (by kernel_rfl) rfl (by kernel_rfl) ?_
        intro H hO
        refine R_end (by kernel_rfl) ?_
        refine E_has (l := [(3, (eInt .i64 last3)), (5, (.lp lo2 0 0)), (9, (eL e_api_Jump t9)), (10, (eInt .i64 t10)), (11, (eInt .i64 t11))]) (.eq (by kernel_rfl)) ?_
        refine E_done (thenA_normal (?_))
        refine C_seq (by kernel_rfl) ?_
        refine C_seq (by kernel_rfl) ?_
        refine A_cl (C_region ttOk (n := 20) (by kernel_rfl) (by kernel_rfl) ?_)
        refine R_pure 1 (by kernel_rfl) (Ds := []) (by kernel_rfl) trivial ?_
        refine R_loadO [] 0 lo2 2 0 (e_api_Jump (List.getD t9 (Int.toNat t11) default)) (eInt .i64 ((List.getD t9 (Int.toNat t11) default).At)) [(e_api_Jump (List.getD t9 (Int.toNat t11) default))] (by kernel_rfl) (by kernel_rfl) hO (by kernel_rfl) true (by kernel_rfl) (fun _ => rfl) ?_
        refine R_pure 6 (by kernel_rfl) (Ds := []) (by kernel_rfl) trivial ?_
        refine R_loadO [(19, false)] 0 lo2 2 0 (e_api_Jump (List.getD t9 (Int.toNat t11) default)) (eInt .i64 ((List.getD t9 (Int.toNat t11) default).At)) [(e_api_Jump (List.getD t9 (Int.toNat t11) default))] (by kernel_rfl) (by kernel_rfl) hO (by kernel_rfl) (!(decide (((List.getD t9 (Int.toNat t11) default).At) ≤ last3))) (by kernel_rfl) (fun hb3 => rfl) ?_
        refine R_pure 11 (by kernel_rfl) (Ds := []) (by kernel_rfl) trivial ?_
        refine R_loadO [(24, false)] 0 lo2 2 0 (e_api_Jump (List.getD t9 (Int.toNat t11) default)) (eInt .i64 ((List.getD t9 (Int.toNat t11) default).Net)) [(e_api_Jump (List.getD t9 (Int.toNat t11) default))] (by kernel_rfl) (by kernel_rfl) hO (by kernel_rfl) (!((decide (((List.getD t9 (Int.toNat t11) default).At) ≤ last3)) || (decide ((1125899906842624 : Int) ≤ ((List.getD t9 (Int.toNat t11) default).At))))) (by kernel_rfl) (fun hb4 => rfl) ?_
        refine R_pure 16 (by kernel_rfl) (Ds := []) (by kernel_rfl) trivial ?_
        refine R_loadO [(29, false)] 0 lo2 2 0 (e_api_Jump (List.getD t9 (Int.toNat t11) default)) (eInt .i64 ((List.getD t9 (Int.toNat t11) default).Net)) [(e_api_Jump (List.getD t9 (Int.toNat t11) default))] (by kernel_rfl) (by kernel_rfl) hO (by kernel_rfl) (!(((decide (((List.getD t9 (Int.toNat t11) default).At) ≤ last3)) || (decide ((1125899906842624 : Int) ≤ ((List.getD t9 (Int.toNat t11) default).At)))) || (decide (((List.getD t9 (Int.toNat t11) default).Net) = (0 : Int))))) (by kernel_rfl) (fun hb5 => rfl) ?_
        obtain ⟨x6, hx7, h1⟩ := bindE h1
        refine R_callO [(29, false)] 33 [(eInt .i64 ((List.getD t9 (Int.toNat t11) default).Net))] (eBool x6) (!(((decide (((List.getD t9 (Int.toNat t11) default).At) ≤ last3)) || (decide ((1125899906842624 : Int) ≤ ((List.getD t9 (Int.toNat t11) default).At)))) || (decide (((List.getD t9 (Int.toNat t11) default).Net) = (0 : Int))))) (by kernel_rfl) (by kernel_rfl) (by kernel_rfl) (fun hb8 => (w_step_fair ((List.getD t9 (Int.toNat t11) default).Net) _ (gcallE hx7 hb8))) hO ?_
        intro H hO
        refine R_all (Ds := []) (by kernel_rfl) trivial ?_
        refine E_has (l := [(5, (.lp lo2 0 0)), (9, (eL e_api_Jump t9)), (10, (eInt .i64 t10)), (11, (eInt .i64 t11)), (34, (eBool ((((decide (((List.getD t9 (Int.toNat t11) default).At) ≤ last3)) || (decide ((1125899906842624 : Int) ≤ ((List.getD t9 (Int.toNat t11) default).At)))) || (decide (((List.getD t9 (Int.toNat t11) default).Net) = (0 : Int)))) || (!x6))))]) (.eq (by kernel_rfl)) ?_
        refine E_done (thenA_normal (?_))
        refine C_cond (b := (((decide (((List.getD t9 (Int.toNat t11) default).At) ≤ last3)) || (decide ((1125899906842624 : Int) ≤ ((List.getD t9 (Int.toNat t11) default).At)))) || (decide (((List.getD t9 (Int.toNat t11) default).Net) = (0 : Int)))) || (!x6)) (by kernel_rfl) (by kernel_rfl) (fun hc9 => ?_) (fun hc9 => ?_)
        · replace h1 := condT hc9 h1
          refine C_seq (by kernel_rfl) ?_
          refine A_cl (C_region ttOk (n := 1) (by kernel_rfl) (by kernel_rfl) ?_)
          refine R_all (Ds := []) (by kernel_rfl) trivial ?_
          refine E_has (l := [(2, (eBool false))]) (.eq (by kernel_rfl)) ?_
          replace hO := hO.pick (L' := []) [] (by decide) (by kernel_rfl)
          refine E_done (thenA_normal (?_))
          refine A_cl (C_ret (by kernel_rfl) ?_)
          refine E_has (l := [(2, (eBool false))]) (.eq (by kernel_rfl)) ?_
          obtain rfl := Option.some.inj h1
          obtain rfl : _ = rr0 := ho0
          replace h0 : some false = some r := h0
          obtain rfl := Option.some.inj h0
          exact E_done (thenA_ret (blockA_ret (thenA_ret (thenA_ret (blockA_ret (thenA_ret (Q_ret (x := (eBool false)) (by kernel_rfl) (SubV.refl _) ⟨rfl, hO.out⟩)))))))
        · replace h1 := condF hc9 h1
          refine A_cl (C_skip (by kernel_rfl) ?_)
          refine E_has (l := [(5, (.lp lo2 0 0)), (9, (eL e_api_Jump t9)), (10, (eInt .i64 t10)), (11, (eInt .i64 t11))]) (.eq (by kernel_rfl)) ?_
          refine E_done (thenA_normal (?_))
          refine A_cl (C_region ttOk (n := 3) (by kernel_rfl) (by kernel_rfl) ?_)
          refine R_pure 1 (by kernel_rfl) (Ds := []) (by kernel_rfl) trivial ?_
          refine R_loadO [] 0 lo2 2 0 (e_api_Jump (List.getD t9 (Int.toNat t11) default)) (eInt .i64 ((List.getD t9 (Int.toNat t11) default).At)) [(e_api_Jump (List.getD t9 (Int.toNat t11) default))] (by kernel_rfl) (by kernel_rfl) hO (by kernel_rfl) true (by kernel_rfl) (fun _ => rfl) ?_
          refine R_all (Ds := []) (by kernel_rfl) trivial ?_
          refine E_has (l := [(3, (eInt .i64 ((List.getD t9 (Int.toNat t11) default).At))), (9, (eL e_api_Jump t9)), (10, (eInt .i64 t10)), (11, (eInt .i64 t11))]) (.eq (by kernel_rfl)) ?_
          replace hO := hO.pick (L' := []) [] (by decide) (by kernel_rfl)
          refine E_done (blockA_normal (thenA_normal (?_)))
          refine A_cl (C_region ttOk (n := 2) (by kernel_rfl) (by kernel_rfl) ?_)
          refine R_all (Ds := []) (by kernel_rfl) trivial ?_
          refine E_has (l := [(3, (eInt .i64 ((List.getD t9 (Int.toNat t11) default).At))), (9, (eL e_api_Jump t9)), (10, (eInt .i64 t10)), (11, (eInt .i64 (IntKind.i64.wrap (t11 + (1 : Int)))))]) (.eq (by kernel_rfl)) ?_
          exact E_done (thenA_normal (⟨rfl, ((List.getD t9 (Int.toNat t11) default).At, IntKind.i64.wrap (t11 + (1 : Int))), (Option.some.inj h1).symm, .eq (by kernel_rfl), hO⟩))
      · replace h1 := condF hc10 h1
        refine A_cl (C_exit (id := 0) (by kernel_rfl) (by kernel_rfl) ?_)
        refine E_has (l := []) (.eq (by kernel_rfl)) ?_
        obtain rfl := Option.some.inj h1
        obtain rfl : _ = rr0 := ho0
        replace h0 : step_May_j1  = some r := h0
        exact E_done (thenA_exit (thenA_exit (blockA_hit (thenA_normal (⟨rfl, .eq (by kernel_rfl), hO, h0⟩)))))

theorem w_step_told (f0 : (List api_Jump)) (r : ((List api_Jump) × Int)) (h0 : s_step_told f0 = some r) : Fine Try.prog 39 [(eL e_api_Jump f0)] (.tup [(eL e_api_Jump r.1), (eInt .i64 r.2)]) := by
  intro H0
  refine F_walk Try.func39 (by kernel_rfl) (by kernel_rfl) (by kernel_rfl) ?_
  have hO := Owns.start H0
  unfold s_step_told at h0
  refine C_seq (by kernel_rfl) ?_
  refine A_cl (C_region ttOk (n := 2) (by kernel_rfl) (by kernel_rfl) ?_)
  refine R_all (Ds := []) (by kernel_rfl) trivial ?_
  refine E_has (l := [(0, (eL e_api_Jump f0))]) (.eq (by kernel_rfl)) ?_
  refine E_done (thenA_normal (?_))
  refine C_seq (by kernel_rfl) ?_
  refine C_seq (by kernel_rfl) ?_
  refine A_cl (C_region ttOk (n := 3) (by kernel_rfl) (by kernel_rfl) ?_)
  refine R_pure 1 (by kernel_rfl) (Ds := []) (by kernel_rfl) trivial ?_
  obtain ⟨x1, hx2, h0⟩ := bindE h0
  refine R_callO [] 15 [(eL e_api_Jump f0)] (eBool x1) true (by kernel_rfl) (by kernel_rfl) (by kernel_rfl) (fun hb3 => (w_step_May f0 _ hx2)) hO ?_
  intro H hO
  refine R_all (Ds := []) (by kernel_rfl) trivial ?_
  refine E_has (l := [(0, (eL e_api_Jump f0)), (6, (eBool (!x1)))]) (.eq (by kernel_rfl)) ?_
  refine E_done (thenA_normal (?_))
  refine C_cond (b := !x1) (by kernel_rfl) (by kernel_rfl) (fun hc4 => ?_) (fun hc4 => ?_)
  · replace h0 := condT hc4 h0
    refine C_seq (by kernel_rfl) ?_
    refine A_cl (C_region ttOk (n := 2) (by kernel_rfl) (by kernel_rfl) ?_)
    refine R_all (Ds := []) (by kernel_rfl) trivial ?_
    refine E_has (l := [(2, (.sl true 0 (fun _ => .bad))), (3, (eInt .i64 (7 : Int)))]) (.eq (by kernel_rfl)) ?_
    refine E_done (thenA_normal (?_))
    refine A_cl (C_ret (by kernel_rfl) ?_)
    refine E_has (l := [(2, (eL e_api_Jump ([]))), (3, (eInt .i64 (7 : Int)))]) ⟨[(2, (.sl true 0 (fun _ => .bad))), (3, (eInt .i64 (7 : Int)))], by kernel_rfl, rfl, ⟨subNilL, SubV.refl _, trivial⟩⟩ ?_
    obtain rfl := Option.some.inj h0
    exact E_done (thenA_ret (Q_ret (x := (.tup [(eL e_api_Jump ([])), (eInt .i64 (7 : Int))])) (by kernel_rfl) (SubV.refl _) ⟨rfl, hO.out⟩))
  · replace h0 := condF hc4 h0
    refine A_cl (C_skip (by kernel_rfl) ?_)
    refine E_has (l := [(0, (eL e_api_Jump f0))]) (.eq (by kernel_rfl)) ?_
    refine E_done (thenA_normal (?_))
    refine C_seq (by kernel_rfl) ?_
    refine A_cl (C_region ttOk (n := 3) (by kernel_rfl) (by kernel_rfl) ?_)
    refine R_all (Ds := []) (by kernel_rfl) trivial ?_
    refine E_has (l := [(2, (eL e_api_Jump f0)), (3, (eInt .i64 (0 : Int)))]) (.eq (by kernel_rfl)) ?_
    refine E_done (thenA_normal (?_))
    refine A_cl (C_ret (by kernel_rfl) ?_)
    refine E_has (l := [(2, (eL e_api_Jump f0)), (3, (eInt .i64 (0 : Int)))]) (.eq (by kernel_rfl)) ?_
    obtain rfl := Option.some.inj h0
    exact E_done (Q_ret (x := (.tup [(eL e_api_Jump f0), (eInt .i64 (0 : Int))])) (by kernel_rfl) (SubV.refl _) ⟨rfl, hO.out⟩)

theorem w_step_Norm (l0 : (List api_Jump)) (r : ((List api_Jump) × Int)) (h0 : s_step_Norm l0 = some r) : Fine Try.prog 12 [(eL e_api_Jump l0)] (.tup [(eL e_api_Jump r.1), (eInt .i64 r.2)]) := by
  intro H0
  refine F_walk Try.func12 (by kernel_rfl) (by kernel_rfl) (by kernel_rfl) ?_
  have hO := Owns.start H0
  unfold s_step_Norm at h0
  refine C_seq (by kernel_rfl) ?_
  refine A_cl (C_region ttOk (n := 2) (by kernel_rfl) (by kernel_rfl) ?_)
  refine R_all (Ds := []) (by kernel_rfl) trivial ?_
  refine E_has (l := [(0, (eL e_api_Jump l0))]) (.eq (by kernel_rfl)) ?_
  refine E_done (thenA_normal (?_))
  refine C_seq (by kernel_rfl) ?_
  refine C_seq (by kernel_rfl) ?_
  refine A_cl (C_region ttOk (n := 2) (by kernel_rfl) (by kernel_rfl) ?_)
  refine R_pure 1 (by kernel_rfl) (Ds := []) (by kernel_rfl) trivial ?_
  obtain ⟨x1, hx2, h0⟩ := bindE h0
  refine R_callO [] 31 [(eL e_api_Jump l0), (.fn (.func 32) [] [])] (eBool x1) true (by kernel_rfl) (by kernel_rfl) (by kernel_rfl) (fun hb3 => (w_slices_ContainsFunc_api_Jump_api_Jump l0 32 [] [] (fun y0 => s_step_Norm_1 y0) (fun y0 r h => w_step_Norm_1 y0 r h) _ hx2)) hO ?_
  intro H hO
  refine R_end (by kernel_rfl) ?_
  refine E_has (l := [(0, (eL e_api_Jump l0)), (9, (eBool x1))]) (.eq (by kernel_rfl)) ?_
  refine E_done (thenA_normal (?_))
  refine C_cond (b := x1) (by kernel_rfl) (by kernel_rfl) (fun hc44 => ?_) (fun hc44 => ?_)
  · replace h0 := condT hc44 h0
    refine C_seq (by kernel_rfl) ?_
    refine A_cl (C_region ttOk (n := 2) (by kernel_rfl) (by kernel_rfl) ?_)
    refine R_all (Ds := []) (by kernel_rfl) trivial ?_
    refine E_has (l := [(2, (.sl true 0 (fun _ => .bad))), (3, (eInt .i64 (2 : Int)))]) (.eq (by kernel_rfl)) ?_
    refine E_done (thenA_normal (?_))
    refine A_cl (C_ret (by kernel_rfl) ?_)
    refine E_has (l := [(2, (eL e_api_Jump ([]))), (3, (eInt .i64 (2 : Int)))]) ⟨[(2, (.sl true 0 (fun _ => .bad))), (3, (eInt .i64 (2 : Int)))], by kernel_rfl, rfl, ⟨subNilL, SubV.refl _, trivial⟩⟩ ?_
    obtain rfl := Option.some.inj h0
    exact E_done (thenA_ret (Q_ret (x := (.tup [(eL e_api_Jump ([])), (eInt .i64 (2 : Int))])) (by kernel_rfl) (SubV.refl _) ⟨rfl, hO.out⟩))
  · replace h0 := condF hc44 h0
    refine A_cl (C_skip (by kernel_rfl) ?_)
    refine E_has (l := [(0, (eL e_api_Jump l0))]) (.eq (by kernel_rfl)) ?_
    refine E_done (thenA_normal (?_))
    refine C_seq (by kernel_rfl) ?_
    refine C_seq (by kernel_rfl) ?_
    refine A_cl (C_region ttOk (n := 2) (by kernel_rfl) (by kernel_rfl) ?_)
    refine R_pure 1 (by kernel_rfl) (Ds := []) (by kernel_rfl) trivial ?_
    obtain ⟨x4, hx5, h0⟩ := bindE h0
    refine R_callO [] 31 [(eL e_api_Jump l0), (.fn (.func 34) [] [])] (eBool x4) true (by kernel_rfl) (by kernel_rfl) (by kernel_rfl) (fun hb6 => (w_slices_ContainsFunc_api_Jump_api_Jump l0 34 [] [] (fun y0 => s_step_Norm_2 y0) (fun y0 r h => w_step_Norm_2 y0 r h) _ hx5)) hO ?_
    intro H hO
    refine R_end (by kernel_rfl) ?_
    refine E_has (l := [(0, (eL e_api_Jump l0)), (11, (eBool x4))]) (.eq (by kernel_rfl)) ?_
    refine E_done (thenA_normal (?_))
    refine C_cond (b := x4) (by kernel_rfl) (by kernel_rfl) (fun hc43 => ?_) (fun hc43 => ?_)
    · replace h0 := condT hc43 h0
      refine C_seq (by kernel_rfl) ?_
      refine A_cl (C_region ttOk (n := 2) (by kernel_rfl) (by kernel_rfl) ?_)
      refine R_all (Ds := []) (by kernel_rfl) trivial ?_
      refine E_has (l := [(2, (.sl true 0 (fun _ => .bad))), (3, (eInt .i64 (13 : Int)))]) (.eq (by kernel_rfl)) ?_
      refine E_done (thenA_normal (?_))
      refine A_cl (C_ret (by kernel_rfl) ?_)
      refine E_has (l := [(2, (eL e_api_Jump ([]))), (3, (eInt .i64 (13 : Int)))]) ⟨[(2, (.sl true 0 (fun _ => .bad))), (3, (eInt .i64 (13 : Int)))], by kernel_rfl, rfl, ⟨subNilL, SubV.refl _, trivial⟩⟩ ?_
      obtain rfl := Option.some.inj h0
      exact E_done (thenA_ret (Q_ret (x := (.tup [(eL e_api_Jump ([])), (eInt .i64 (13 : Int))])) (by kernel_rfl) (SubV.refl _) ⟨rfl, hO.out⟩))
    · replace h0 := condF hc43 h0
      refine A_cl (C_skip (by kernel_rfl) ?_)
      refine E_has (l := [(0, (eL e_api_Jump l0))]) (.eq (by kernel_rfl)) ?_
      refine E_done (thenA_normal (?_))
      refine C_seq (by kernel_rfl) ?_
      refine A_cl (C_region ttOk (n := 3) (by kernel_rfl) (by kernel_rfl) ?_)
      refine R_pure 1 (by kernel_rfl) (Ds := []) (by kernel_rfl) trivial ?_
      obtain ⟨x7, hx8, h0⟩ := bindE h0
      refine R_callP (L' := fun lo9 => [(lo9, 2, List.map e_api_Jump x7)]) 2 (List.map e_api_Jump x7) 35 [(eL e_api_Jump l0)] (fun lo9 => (.msl 2 lo9 0 (List.length x7))) (by kernel_rfl) (by kernel_rfl) (w_slices_Clone_api_Jump_api_Jump l0 _ hx8) hO (fun _ => by kernel_rfl) ?_
      intro lo9 H hO
      refine R_all (Ds := []) (by kernel_rfl) trivial ?_
      refine E_has (l := [(4, (.msl 2 lo9 0 (List.length x7)))]) (.eq (by kernel_rfl)) ?_
      refine E_done (thenA_normal (?_))
      refine C_seq (by kernel_rfl) ?_
      refine A_cl (C_region ttOk (n := 2) (by kernel_rfl) (by kernel_rfl) ?_)
      refine R_pure 1 (by kernel_rfl) (Ds := []) (by kernel_rfl) trivial ?_
      obtain ⟨x10, hx11, h0⟩ := bindE h0
      refine R_callI (L' := [(lo9, 2, List.map e_api_Jump x10)]) 0 lo9 2 (List.map e_api_Jump x7) (List.map e_api_Jump x10) 36 [(.msl 2 lo9 0 (List.length x7)), (.fn (.func 37) [] [])] (.tup []) (by kernel_rfl) (by kernel_rfl) (w_slices_SortStableFunc_api_Jump_api_Jump lo9 x7 37 [] [] (fun y0 y1 => s_step_Norm_3 y0 y1) (fun y0 y1 r h => w_step_Norm_3 y0 y1 r h) _ hx11) hO (by kernel_rfl) (by kernel_rfl) ?_
      intro H hO hl12
      simp only [List.length_map] at hl12
      refine R_end (by kernel_rfl) ?_
      refine E_has (l := [(4, (.msl 2 lo9 0 (List.length x10)))]) ⟨[(4, (.msl 2 lo9 0 (List.length x7)))], by kernel_rfl, rfl, ⟨SubV.eq (by simp [hl12]), trivial⟩⟩ ?_
      refine E_done (thenA_normal (?_))
      refine C_seq (by kernel_rfl) ?_
      refine A_cl (C_region ttOk (n := 2) (by kernel_rfl) (by kernel_rfl) ?_)
      refine R_bsl (xs := []) (k := 2) (by kernel_rfl) (by kernel_rfl) ?_
      refine R_all (Ds := []) (by kernel_rfl) trivial ?_
      refine E_has (l := [(4, (.msl 2 lo9 0 (List.length x10))), (5, (.sl true 0 (fun _ => .bad)))]) (.eq (by kernel_rfl)) ?_
      refine E_done (thenA_normal (?_))
      refine C_seqJ (by kernel_rfl) (fun T H => ∃ out5 : List api_Jump, ∃ lo13 : Nat, Has T [(5, (.msl 2 lo13 0 (List.length out5)))] ∧ Owns ⟨H0, []⟩ H [(lo13, 2, List.map e_api_Jump out5)] ∧ step_Norm_j1 out5 = some r) ?_ ?_
      · clear hO h0
        rintro T H ⟨out5, lo13, hT, hO, h0⟩
        refine C_has hT ?_
        clear hT
        unfold step_Norm_j1 at h0
        refine C_seq (by kernel_rfl) ?_
        refine A_cl (C_region ttOk (n := 6) (by kernel_rfl) (by kernel_rfl) ?_)
        refine R_freezeO (e := e_api_Jump) out5 0 5 2 lo13 (List.length out5) [] (by kernel_rfl) hO (by kernel_rfl) (by kernel_rfl) (by kernel_rfl) (by kernel_rfl) ?_
        intro H hO
        refine R_pure 1 (by kernel_rfl) (Ds := []) (by kernel_rfl) trivial ?_
        obtain ⟨x14, hx15, h0⟩ := bindE h0
        refine R_callO [] 39 [(eL e_api_Jump out5)] (.tup [(eL e_api_Jump x14.1), (eInt .i64 x14.2)]) true (by kernel_rfl) (by kernel_rfl) (by kernel_rfl) (fun hb16 => (w_step_told out5 _ hx15)) hO ?_
        intro H hO
        refine R_all (Ds := []) (by kernel_rfl) trivial ?_
        refine E_has (l := [(2, (eL e_api_Jump x14.1)), (3, (eInt .i64 x14.2))]) (.eq (by kernel_rfl)) ?_
        refine E_done (thenA_normal (?_))
        refine A_cl (C_ret (by kernel_rfl) ?_)
        refine E_has (l := [(2, (eL e_api_Jump x14.1)), (3, (eInt .i64 x14.2))]) (.eq (by kernel_rfl)) ?_
        obtain rfl := Option.some.inj h0
        exact E_done (Q_ret (x := (.tup [(eL e_api_Jump x14.1), (eInt .i64 x14.2)])) (by kernel_rfl) (SubV.refl _) ⟨rfl, hO.out⟩)
      · refine C_seq (by kernel_rfl) ?_
        refine A_cl (C_region ttOk (n := 1) (by kernel_rfl) (by kernel_rfl) ?_)
        refine R_all (Ds := []) (by kernel_rfl) trivial ?_
        refine E_has (l := [(4, (.msl 2 lo9 0 (List.length x10))), (5, (.sl true 0 (fun _ => .bad))), (6, (eInt .i64 (0 : Int)))]) (.eq (by kernel_rfl)) ?_
        refine E_done (thenA_normal (?_))
        refine C_block (id := 0) (by kernel_rfl) (by kernel_rfl) ?_
        refine C_has (l := [(4, (.msl 2 lo9 0 (List.length x10))), (5, (.sl true 0 (fun _ => .bad))), (6, (eInt .i64 (0 : Int)))]) (.eq (by kernel_rfl)) ?_
        refine C_ownO (el := (fun _ => .bad)) 1 5 2 hO (by kernel_rfl) ?_
        intro lo41 H42 hO
        refine C_cut (fun T H => ∃ all4 : List api_Jump, ∃ out5 : List api_Jump, ∃ i6 : Int, ∃ lo19 : Nat, ∃ lo20 : Nat, Has T [(4, (.msl 2 lo19 0 (List.length all4))), (5, (.msl 2 lo20 0 (List.length out5))), (6, (eInt .i64 i6))] ∧ Owns ⟨H0, []⟩ H [(lo19, 2, List.map e_api_Jump all4), (lo20, 2, List.map e_api_Jump out5)] ∧ step_Norm_h2 all4 out5 i6 = some r) ?_ ⟨x10, ([] : List api_Jump), (0 : Int), lo9, lo41, .eq (by kernel_rfl), hO, h0⟩
        clear hO h0
        rintro T H ⟨all4, out5, i6, lo19, lo20, hT, hO, h0⟩
        refine C_has hT ?_
        clear hT
        unfold step_Norm_h2 at h0
        obtain ⟨rr0, hl0, h0⟩ := bindE h0
        refine C_loopS (by kernel_rfl) (fun (s : List api_Jump × List api_Jump × Int) T H => ∃ lo19 : Nat, ∃ lo20 : Nat, Has T [(4, (.msl 2 lo19 0 (List.length s.1))), (5, (.msl 2 lo20 0 (List.length s.2.1))), (6, (eInt .i64 s.2.2))] ∧ Owns ⟨H0, []⟩ H [(lo19, 2, List.map e_api_Jump s.1), (lo20, 2, List.map e_api_Jump s.2.1)]) hl0 ⟨lo19, lo20, .eq (by kernel_rfl), hO⟩ ?_
        clear hO
        rintro k0 s out1 T H ⟨lo19, lo20, hT, hO⟩ h1 ho0
        obtain ⟨all4, out5, i6⟩ := s
        replace h1 : step_Norm_l2 all4 out5 i6 = some out1 := h1
        refine C_has (l := [(4, (.msl 2 lo19 0 (List.length all4))), (5, (.msl 2 lo20 0 (List.length out5))), (6, (eInt .i64 i6))]) hT ?_
        clear hT
        unfold step_Norm_l2 at h1
        refine C_seq (by kernel_rfl) ?_
        refine C_seq (by kernel_rfl) ?_
        refine A_cl (C_region ttOk (n := 4) (by kernel_rfl) (by kernel_rfl) ?_)
        refine R_all (Ds := []) (by kernel_rfl) trivial ?_
        refine E_has (l := [(4, (.msl 2 lo19 0 (List.length all4))), (5, (.msl 2 lo20 0 (List.length out5))), (6, (eInt .i64 i6)), (20, (eBool (decide (i6 < ((List.length all4 : Nat) : Int)))))]) (.eq (by kernel_rfl)) ?_
        refine E_done (thenA_normal (?_))
        refine C_cond (b := decide (i6 < ((List.length all4 : Nat) : Int))) (by kernel_rfl) (by kernel_rfl) (fun hc40 => ?_) (fun hc40 => ?_)
        · replace h1 := condT hc40 h1
          refine A_cl (C_skip (by kernel_rfl) ?_)
          refine E_has (l := [(4, (.msl 2 lo19 0 (List.length all4))), (5, (.msl 2 lo20 0 (List.length out5))), (6, (eInt .i64 i6))]) (.eq (by kernel_rfl)) ?_
          refine E_done (thenA_normal (?_))
          refine C_block (id := 1) (by kernel_rfl) (by kernel_rfl) ?_
          refine C_seq (by kernel_rfl) ?_
          refine A_cl (C_region ttOk (n := 8) (by kernel_rfl) (by kernel_rfl) ?_)
          obtain ⟨c21, h1⟩ := asrtE h1
          refine R_pure 4 (by kernel_rfl) (Ds := [0 ≤ i6 ∧ i6 < ((List.length all4 : Nat) : Int)]) (by kernel_rfl) ⟨c21, trivial⟩ ?_
          refine R_loadO [] 0 lo19 2 (0 + Int.toNat i6) (e_api_Jump (List.getD all4 (Int.toNat i6) default)) (eInt .i64 ((List.getD all4 (Int.toNat i6) default).At)) (List.map e_api_Jump all4) (by kernel_rfl) (by kernel_rfl) hO (by kernel_rfl) true (by kernel_rfl) (fun _ => (ownGet c21)) ?_
          refine R_pure 6 (by kernel_rfl) (Ds := []) (by kernel_rfl) trivial ?_
          refine R_allocO 2 (e_api_Jump (api_Jump.mk 0 0)) (by kernel_rfl) (by kernel_rfl) hO ?_
          intro lo22 H hO
          refine R_storeOL 2 lo22 2 0 (e_api_Jump (api_Jump.mk 0 0)) (e_api_Jump (api_Jump.mk ((List.getD all4 (Int.toNat i6) default).At) 0)) [(e_api_Jump (api_Jump.mk 0 0))] [(lo19, 2, List.map e_api_Jump all4), (lo20, 2, List.map e_api_Jump out5), (lo22, 2, [(e_api_Jump (api_Jump.mk ((List.getD all4 (Int.toNat i6) default).At) 0))])] (by kernel_rfl) (by kernel_rfl) (by kernel_rfl) hO (by kernel_rfl) rfl (by kernel_rfl) ?_
          intro H hO
          refine R_end (by kernel_rfl) ?_
          refine E_has (l := [(4, (.msl 2 lo19 0 (List.length all4))), (5, (.msl 2 lo20 0 (List.length out5))), (6, (eInt .i64 i6)), (7, (.lp lo22 0 0))]) (.eq (by kernel_rfl)) ?_
          refine E_done (thenA_normal (?_))
          refine C_seqJ (by kernel_rfl) (fun T H => ∃ all4 : List api_Jump, ∃ out5 : List api_Jump, ∃ i6 : Int, ∃ j7 : api_Jump, ∃ lo23 : Nat, ∃ lo24 : Nat, ∃ lo25 : Nat, Has T [(4, (.msl 2 lo23 0 (List.length all4))), (5, (.msl 2 lo24 0 (List.length out5))), (6, (eInt .i64 i6)), (7, (.lp lo25 0 0))] ∧ Owns ⟨H0, []⟩ H [(lo23, 2, List.map e_api_Jump all4), (lo24, 2, List.map e_api_Jump out5), (lo25, 2, [(e_api_Jump j7)])] ∧ step_Norm_j3 all4 out5 i6 j7 = some out1) ?_ ?_
          · clear hO h1
            rintro T H ⟨all4, out5, i6, j7, lo23, lo24, lo25, hT, hO, h1⟩
            refine C_has hT ?_
            clear hT
            unfold step_Norm_j3 at h1
            refine C_seq (by kernel_rfl) ?_
            refine A_cl (C_region ttOk (n := 8) (by kernel_rfl) (by kernel_rfl) ?_)
            refine R_pure 1 (by kernel_rfl) (Ds := []) (by kernel_rfl) trivial ?_
            refine R_loadO [] 2 lo25 2 0 (e_api_Jump j7) (eInt .i64 j7.Net) [(e_api_Jump j7)] (by kernel_rfl) (by kernel_rfl) hO (by kernel_rfl) true (by kernel_rfl) (fun _ => rfl) ?_
            refine R_pure 5 (by kernel_rfl) (Ds := []) (by kernel_rfl) trivial ?_
            refine R_loadO [(55, true)] 2 lo25 2 0 (e_api_Jump j7) (eInt .i64 j7.At) [(e_api_Jump j7)] (by kernel_rfl) (by kernel_rfl) hO (by kernel_rfl) (!decide (j7.Net = (0 : Int))) (by kernel_rfl) (fun hb26 => rfl) ?_
            refine R_all (Ds := []) (by kernel_rfl) trivial ?_
            refine E_has (l := [(4, (.msl 2 lo23 0 (List.length all4))), (5, (.msl 2 lo24 0 (List.length out5))), (6, (eInt .i64 i6)), (7, (.lp lo25 0 0)), (59, (eBool ((!decide (j7.Net = (0 : Int))) && (decide (j7.At < (1125899906842624 : Int))))))]) (.eq (by kernel_rfl)) ?_
            refine E_done (thenA_normal (?_))
            refine C_cond (b := (!decide (j7.Net = (0 : Int))) && (decide (j7.At < (1125899906842624 : Int)))) (by kernel_rfl) (by kernel_rfl) (fun hc29 => ?_) (fun hc29 => ?_)
            · replace h1 := condT hc29 h1
              refine A_cl (C_region ttOk (n := 5) (by kernel_rfl) (by kernel_rfl) ?_)
              refine R_pure 1 (by kernel_rfl) (Ds := []) (by kernel_rfl) trivial ?_
              refine R_loadO [] 2 lo25 2 0 (e_api_Jump j7) (e_api_Jump j7) [(e_api_Jump j7)] (by kernel_rfl) (by kernel_rfl) hO (by kernel_rfl) true (by kernel_rfl) (fun _ => rfl) ?_
              refine R_bsl (xs := [(e_api_Jump j7)]) (k := 2) (by kernel_rfl) (by kernel_rfl) ?_
              obtain ⟨c28, h1⟩ := asrtE h1
              refine R_appOL (e := e_api_Jump) out5 ([j7]) 1 lo24 2 16 (frozenOf [(e_api_Jump j7)]) (fun lo27 => [(lo23, 2, List.map e_api_Jump all4), (lo27, 2, List.map e_api_Jump (out5 ++ ([j7]))), (lo25, 2, [(e_api_Jump j7)])]) (by kernel_rfl) (by kernel_rfl) hO (by kernel_rfl) (by kernel_rfl) c28 (fun _ => by kernel_rfl) ?_
              intro lo27 H hO
              refine R_all (Ds := []) (by kernel_rfl) trivial ?_
              refine E_has (l := [(4, (.msl 2 lo23 0 (List.length all4))), (5, (.msl 2 lo27 0 (List.length (out5 ++ ([j7]))))), (6, (eInt .i64 i6))]) (.eq (by kernel_rfl)) ?_
              replace hO := hO.pick (L' := [(lo23, 2, List.map e_api_Jump all4), (lo27, 2, List.map e_api_Jump (out5 ++ ([j7])))]) [0, 1] (by decide) (by kernel_rfl)
              exact E_done (blockA_normal (thenA_normal (⟨rfl, (all4, out5 ++ ([j7]), i6), (Option.some.inj h1).symm, lo23, lo27, .eq (by kernel_rfl), hO⟩)))
            · replace h1 := condF hc29 h1
              refine A_cl (C_skip (by kernel_rfl) ?_)
              refine E_has (l := [(4, (.msl 2 lo23 0 (List.length all4))), (5, (.msl 2 lo24 0 (List.length out5))), (6, (eInt .i64 i6))]) (.eq (by kernel_rfl)) ?_
              replace hO := hO.pick (L' := [(lo23, 2, List.map e_api_Jump all4), (lo24, 2, List.map e_api_Jump out5)]) [0, 1] (by decide) (by kernel_rfl)
              exact E_done (blockA_normal (thenA_normal (⟨rfl, (all4, out5, i6), (Option.some.inj h1).symm, lo23, lo24, .eq (by kernel_rfl), hO⟩)))
          · refine C_block (id := 2) (by kernel_rfl) (by kernel_rfl) ?_
            refine C_has (l := [(4, (.msl 2 lo19 0 (List.length all4))), (5, (.msl 2 lo20 0 (List.length out5))), (6, (eInt .i64 i6)), (7, (.lp lo22 0 0))]) (.eq (by kernel_rfl)) ?_
            refine C_cut (fun T H => ∃ all4 : List api_Jump, ∃ out5 : List api_Jump, ∃ i6 : Int, ∃ j7 : api_Jump, ∃ lo33 : Nat, ∃ lo34 : Nat, ∃ lo35 : Nat, Has T [(4, (.msl 2 lo33 0 (List.length all4))), (5, (.msl 2 lo34 0 (List.length out5))), (6, (eInt .i64 i6)), (7, (.lp lo35 0 0))] ∧ Owns ⟨H0, []⟩ H [(lo33, 2, List.map e_api_Jump all4), (lo34, 2, List.map e_api_Jump out5), (lo35, 2, [(e_api_Jump j7)])] ∧ step_Norm_h4 all4 out5 i6 j7 = some out1) ?_ ⟨all4, out5, i6, api_Jump.mk ((List.getD all4 (Int.toNat i6) default).At) 0, lo19, lo20, lo22, .eq (by kernel_rfl), hO, h1⟩
            clear hO h1
            rintro T H ⟨all4, out5, i6, j7, lo33, lo34, lo35, hT, hO, h1⟩
            refine C_has hT ?_
            clear hT
            unfold step_Norm_h4 at h1
            obtain ⟨rr1, hl1, h1⟩ := bindE h1
            refine C_loopS (by kernel_rfl) (fun (s : List api_Jump × List api_Jump × Int × api_Jump) T H => ∃ lo33 : Nat, ∃ lo34 : Nat, ∃ lo35 : Nat, Has T [(4, (.msl 2 lo33 0 (List.length s.1))), (5, (.msl 2 lo34 0 (List.length s.2.1))), (6, (eInt .i64 s.2.2.1)), (7, (.lp lo35 0 0))] ∧ Owns ⟨H0, []⟩ H [(lo33, 2, List.map e_api_Jump s.1), (lo34, 2, List.map e_api_Jump s.2.1), (lo35, 2, [(e_api_Jump s.2.2.2)])]) hl1 ⟨lo33, lo34, lo35, .eq (by kernel_rfl), hO⟩ ?_
            clear hO
            rintro k1 s out2 T H ⟨lo33, lo34, lo35, hT, hO⟩ h2 ho1
            obtain ⟨all4, out5, i6, j7⟩ := s
            replace h2 : step_Norm_l4 all4 out5 i6 j7 = some out2 := h2
            refine C_has (l := [(4, (.msl 2 lo33 0 (List.length all4))), (5, (.msl 2 lo34 0 (List.length out5))), (6, (eInt .i64 i6)), (7, (.lp lo35 0 0))]) hT ?_
            clear hT
            unfold step_Norm_l4 at h2
            refine C_seq (by kernel_rfl) ?_
            refine C_seq (by kernel_rfl) ?_
            obtain ⟨c36, h2⟩ := asrtE h2
            refine A_cl (C_draw ttOk (by kernel_rfl) (n := 14) (by kernel_rfl) (by kernel_rfl) (by kernel_rfl) ?_)
            refine D_mono (K := fun T H => Has (lift T) [(4, (.msl 2 lo33 0 (List.length all4))), (5, (.msl 2 lo34 0 (List.length out5))), (6, (eInt .i64 i6)), (7, (.lp lo35 0 0)), (40, (eBool ((decide (i6 < ((List.length all4 : Nat) : Int))) && (decide (((List.getD all4 (Int.toNat i6) default).At) = j7.At)))))] ∧ Owns ⟨H0, []⟩ H [(lo33, 2, List.map e_api_Jump all4), (lo34, 2, List.map e_api_Jump out5), (lo35, 2, [(e_api_Jump j7)])]) ?_ ?_
            · refine D_pure 5 (by kernel_rfl) (Ds := []) (by kernel_rfl) trivial ?_
              refine D_split (t := 31) (e := decide (i6 < ((List.length all4 : Nat) : Int))) (by kernel_rfl) (fun hg37 => ?_) (fun hg37 => ?_)
              · refine D_pure 9 (by kernel_rfl) (Ds := [0 ≤ i6 ∧ i6 < ((List.length all4 : Nat) : Int)]) (by kernel_rfl) ⟨(c36 (by simp [hg37])), trivial⟩ ?_
                refine D_loadV 0 lo33 2 (0 + Int.toNat i6) (e_api_Jump (List.getD all4 (Int.toNat i6) default)) (eInt .i64 ((List.getD all4 (Int.toNat i6) default).At)) (List.map e_api_Jump all4) (by kernel_rfl) (by kernel_rfl) hO (by kernel_rfl) (ownGet (c36 (by simp [hg37]))) ?_
                refine D_pure 11 (by kernel_rfl) (Ds := []) (by kernel_rfl) trivial ?_
                refine D_loadV 2 lo35 2 0 (e_api_Jump j7) (eInt .i64 j7.At) [(e_api_Jump j7)] (by kernel_rfl) (by kernel_rfl) hO (by kernel_rfl) rfl ?_
                refine D_all (Ds := []) (by kernel_rfl) trivial ?_
                exact ⟨⟨[(4, (.msl 2 lo33 0 (List.length all4))), (5, (.msl 2 lo34 0 (List.length out5))), (6, (eInt .i64 i6)), (7, (.lp lo35 0 0)), (40, (eBool (decide (((List.getD all4 (Int.toNat i6) default).At) = j7.At))))], by kernel_rfl, rfl, ⟨SubV.refl _, SubV.refl _, SubV.refl _, SubV.refl _, SubV.eq (by simp [eBool, hg37]), trivial⟩⟩, hO⟩
              · refine D_all (Ds := []) (by kernel_rfl) trivial ?_
                exact ⟨⟨[(4, (.msl 2 lo33 0 (List.length all4))), (5, (.msl 2 lo34 0 (List.length out5))), (6, (eInt .i64 i6)), (7, (.lp lo35 0 0)), (40, (eBool false))], by kernel_rfl, rfl, ⟨SubV.refl _, SubV.refl _, SubV.refl _, SubV.refl _, SubV.eq (by simp [eBool, hg37]), trivial⟩⟩, hO⟩
            · rintro T H ⟨hT, hO⟩
              refine E_has hT ?_
              clear hT
              refine E_has (l := [(4, (.msl 2 lo33 0 (List.length all4))), (5, (.msl 2 lo34 0 (List.length out5))), (6, (eInt .i64 i6)), (7, (.lp lo35 0 0)), (40, (eBool ((decide (i6 < ((List.length all4 : Nat) : Int))) && (decide (((List.getD all4 (Int.toNat i6) default).At) = j7.At)))))]) (.eq (by kernel_rfl)) ?_
              refine E_done (thenA_normal (?_))
              refine C_cond (b := (decide (i6 < ((List.length all4 : Nat) : Int))) && (decide (((List.getD all4 (Int.toNat i6) default).At) = j7.At))) (by kernel_rfl) (by kernel_rfl) (fun hc39 => ?_) (fun hc39 => ?_)
              · replace h2 := condT hc39 h2
                refine A_cl (C_skip (by kernel_rfl) ?_)
                refine E_has (l := [(4, (.msl 2 lo33 0 (List.length all4))), (5, (.msl 2 lo34 0 (List.length out5))), (6, (eInt .i64 i6)), (7, (.lp lo35 0 0))]) (.eq (by kernel_rfl)) ?_
                refine E_done (thenA_normal (?_))
                refine C_seq (by kernel_rfl) ?_
                refine C_block (id := 3) (by kernel_rfl) (by kernel_rfl) ?_
                refine A_cl (C_draw ttOk (by kernel_rfl) (n := 10) (by kernel_rfl) (by kernel_rfl) (by kernel_rfl) ?_)
                refine D_pure 1 (by kernel_rfl) (Ds := []) (by kernel_rfl) trivial ?_
                refine D_loadO 2 lo35 2 0 (e_api_Jump j7) (eInt .i64 j7.Net) [(e_api_Jump j7)] (by kernel_rfl) (by kernel_rfl) (by kernel_rfl) hO (by kernel_rfl) rfl ?_
                obtain ⟨c38, h2⟩ := asrtE h2
                refine D_pure 6 (by kernel_rfl) (Ds := [0 ≤ i6 ∧ i6 < ((List.length all4 : Nat) : Int)]) (by kernel_rfl) ⟨c38, trivial⟩ ?_
                refine D_loadO 0 lo33 2 (0 + Int.toNat i6) (e_api_Jump (List.getD all4 (Int.toNat i6) default)) (eInt .i64 ((List.getD all4 (Int.toNat i6) default).Net)) (List.map e_api_Jump all4) (by kernel_rfl) (by kernel_rfl) (by kernel_rfl) hO (by kernel_rfl) (ownGet c38) ?_
                refine D_pure 9 (by kernel_rfl) (Ds := []) (by kernel_rfl) trivial ?_
                refine D_storeO 2 lo35 2 0 (e_api_Jump j7) (e_api_Jump (api_Jump.mk j7.At (IntKind.i64.wrap (j7.Net + ((List.getD all4 (Int.toNat i6) default).Net))))) [(e_api_Jump j7)] [(lo33, 2, List.map e_api_Jump all4), (lo34, 2, List.map e_api_Jump out5), (lo35, 2, [(e_api_Jump (api_Jump.mk j7.At (IntKind.i64.wrap (j7.Net + ((List.getD all4 (Int.toNat i6) default).Net)))))])] (by kernel_rfl) (by kernel_rfl) (by kernel_rfl) hO (by kernel_rfl) rfl (by kernel_rfl) ?_
                intro H hO
                refine D_end (by kernel_rfl) ?_
                refine E_has (l := [(4, (.msl 2 lo33 0 (List.length all4))), (5, (.msl 2 lo34 0 (List.length out5))), (6, (eInt .i64 i6)), (7, (.lp lo35 0 0))]) (.eq (by kernel_rfl)) ?_
                refine E_done (blockA_normal (thenA_normal (?_)))
                refine A_cl (C_region ttOk (n := 3) (by kernel_rfl) (by kernel_rfl) ?_)
                refine R_all (Ds := []) (by kernel_rfl) trivial ?_
                refine E_has (l := [(4, (.msl 2 lo33 0 (List.length all4))), (5, (.msl 2 lo34 0 (List.length out5))), (6, (eInt .i64 (IntKind.i64.wrap (i6 + (1 : Int))))), (7, (.lp lo35 0 0))]) (.eq (by kernel_rfl)) ?_
                exact E_done (thenA_normal (⟨rfl, (all4, out5, IntKind.i64.wrap (i6 + (1 : Int)), api_Jump.mk j7.At (IntKind.i64.wrap (j7.Net + ((List.getD all4 (Int.toNat i6) default).Net)))), (Option.some.inj h2).symm, lo33, lo34, lo35, .eq (by kernel_rfl), hO⟩))
              · replace h2 := condF hc39 h2
                refine A_cl (C_exit (id := 2) (by kernel_rfl) (by kernel_rfl) ?_)
                refine E_has (l := [(4, (.msl 2 lo33 0 (List.length all4))), (5, (.msl 2 lo34 0 (List.length out5))), (6, (eInt .i64 i6)), (7, (.lp lo35 0 0))]) (.eq (by kernel_rfl)) ?_
                obtain rfl := Option.some.inj h2
                obtain rfl : _ = rr1 := ho1
                replace h1 : step_Norm_j3 all4 out5 i6 j7 = some out1 := h1
                exact E_done (thenA_exit (thenA_exit (blockA_hit (thenA_normal (⟨rfl, all4, out5, i6, j7, lo33, lo34, lo35, .eq (by kernel_rfl), hO, h1⟩)))))
        · replace h1 := condF hc40 h1
          refine A_cl (C_exit (id := 0) (by kernel_rfl) (by kernel_rfl) ?_)
          refine E_has (l := [(5, (.msl 2 lo20 0 (List.length out5)))]) (.eq (by kernel_rfl)) ?_
          replace hO := hO.pick (L' := [(lo20, 2, List.map e_api_Jump out5)]) [1] (by decide) (by kernel_rfl)
          obtain rfl := Option.some.inj h1
          obtain rfl : _ = rr0 := ho0
          replace h0 : step_Norm_j1 out5 = some r := h0
          exact E_done (thenA_exit (thenA_exit (blockA_hit (thenA_normal (⟨rfl, out5, lo20, .eq (by kernel_rfl), hO, h0⟩)))))

end Go.Abs
