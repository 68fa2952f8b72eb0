/- What the law EdgeUndo stands on: the framework, the given functions as plain functions, their walks, and the plain laws; part 4. -/
import Derived.Test.YtbnnpfncgndidaaEdgeUndoZ3
set_option linter.unusedSimpArgs false
set_option linter.unusedVariables false
namespace Go.Abs
open Go Go.RowKit Go.Proofs
theorem w_edge_mapped (l0 : (List api_Edge)) (by1_f : Nat) (by1_a by1_c : List V) (by1 : (List api_Jump) → Option ((List api_Jump) × Int)) (by1_h : ∀ a0 r, by1 a0 = some r → Fine Try.prog by1_f (by1_a ++ [(eL e_api_Jump a0)] ++ by1_c) (.tup [(eL e_api_Jump r.1), (eInt .i64 r.2)])) (r : ((List api_Edge) × Int)) (h0 : s_edge_mapped l0 by1 = some r) : Fine Try.prog 63 [(eL e_api_Edge l0), (.fn (.func by1_f) by1_a by1_c)] (.tup [(eL e_api_Edge r.1), (eInt .i64 r.2)]) := by
  intro H0
  refine F_walkM ttOk Try.func63 (by kernel_rfl) (by kernel_rfl) (by kernel_rfl) ?_
  have hO := Owns.start H0
  unfold s_edge_mapped at h0
  refine C_sq ?_
  refine C_rg ttOk 3 ?_
  refine R_boxF 1 (.fn (.func by1_f) by1_a by1_c) (by kernel_rfl) (by kernel_rfl) ?_
  refine R_allocZ 1 (.sl true 0 (fun _ => .bad)) (eL e_api_Edge ([])) (by kernel_rfl) (by kernel_rfl) (by kernel_rfl) (subNilL) (by kernel_rfl) (by kernel_rfl) hO ?_
  intro lo1 H hO
  refine R_allocO 1 (eInt .i64 0) (by kernel_rfl) (by kernel_rfl) hO ?_
  intro lo2 H hO
  refine R_en ?_
  refine E_tn [(0, (eL e_api_Edge l0)), (3, (.rp (.fn (.func by1_f) by1_a by1_c))), (4, (.lp lo1 0 0)), (5, (.lp lo2 0 0))] ?_
  refine C_sq ?_
  refine C_rg ttOk 3 ?_
  refine R_bsl (xs := []) (k := 3) (by kernel_rfl) (by kernel_rfl) ?_
  refine R_allocZ 1 (.sl true 0 (fun _ => .bad)) (eL e_api_Edge ([])) (by kernel_rfl) (by kernel_rfl) (by kernel_rfl) (subNilL) (by kernel_rfl) (by kernel_rfl) hO ?_
  intro lo3 H hO
  refine R_ownO 11 3 (fun _ => .bad) (by kernel_rfl) hO (by kernel_rfl) ?_
  intro lo4 H hO
  refine R_storeOL 2 lo3 1 0 (eL e_api_Edge ([])) (.msl 3 lo4 0 (List.length ([] : List api_Edge))) [(eL e_api_Edge ([]))] [(lo1, 1, [(eL e_api_Edge ([]))]), (lo2, 1, [(eInt .i64 0)]), (lo3, 1, [(.msl 3 lo4 0 (List.length ([] : List api_Edge)))]), (lo4, 3, List.map e_api_Edge ([] : List api_Edge))] (by kernel_rfl) (by kernel_rfl) (by kernel_rfl) hO (by kernel_rfl) rfl (by kernel_rfl) ?_
  intro H hO
  refine R_en ?_
  refine E_tn [(0, (eL e_api_Edge l0)), (3, (.rp (.fn (.func by1_f) by1_a by1_c))), (4, (.lp lo1 0 0)), (5, (.lp lo2 0 0)), (6, (.lp lo3 0 0))] ?_
  refine C_sq ?_
  refine C_sq ?_
  refine C_rg ttOk 2 ?_
  refine R_pu 1 ?_
  obtain ⟨x5, hx6, h0⟩ := bindE h0
  refine R_cO 70 [(eL e_api_Edge l0)] (.fn (.func 104) [] [(.rp (eL e_api_Edge x5))]) (w_edge_runs l0 _ hx6) hO ?_
  intro H hO
  refine R_en ?_
  refine E_tn [(3, (.rp (.fn (.func by1_f) by1_a by1_c))), (4, (.lp lo1 0 0)), (5, (.lp lo2 0 0)), (6, (.lp lo3 0 0)), (13, (.fn (.func 104) [] [(.rp (eL e_api_Edge x5))]))] ?_
  refine C_bk 0 ?_
  refine C_hk [(3, (.rp (.fn (.func by1_f) by1_a by1_c))), (4, (.lp lo1 0 0)), (5, (.lp lo2 0 0)), (6, (.lp lo3 0 0)), (13, (.fn (.func 104) [] [(.rp (eL e_api_Edge x5))]))] ?_
  refine C_cut (fun T H => ∃ t4 : (List api_Edge), ∃ t5 : Int, ∃ out6 : List api_Edge, ∃ t13c0 : (List api_Edge), ∃ lo7 : Nat, ∃ lo8 : Nat, ∃ lo9 : Nat, ∃ lo10 : Nat, Has T [(3, (.rp (.fn (.func by1_f) by1_a by1_c))), (4, (.lp lo7 0 0)), (5, (.lp lo8 0 0)), (6, (.lp lo9 0 0)), (13, (.fn (.func 104) [] [(.rp (eL e_api_Edge t13c0))]))] ∧ Owns ⟨H0, [], []⟩ H [(lo7, 1, [(eL e_api_Edge t4)]), (lo8, 1, [(eInt .i64 t5)]), (lo9, 1, [(.msl 3 lo10 0 (List.length out6))]), (lo10, 3, List.map e_api_Edge out6)] ∧ edge_mapped_h1 by1 t4 t5 out6 t13c0 = some r) ?_ ⟨[], 0, ([] : List api_Edge), x5, lo1, lo2, lo3, lo4, .eq (by kernel_rfl), hO, h0⟩
  clear hO h0
  rintro T H ⟨t4, t5, out6, t13c0, lo7, lo8, lo9, lo10, hT, hO, h0⟩
  refine C_has (l := [(3, (.rp (.fn (.func by1_f) by1_a by1_c))), (4, (.lp lo7 0 0)), (5, (.lp lo8 0 0)), (6, (.lp lo9 0 0)), (13, (.fn (.func 104) [] [(.rp (eL e_api_Edge t13c0))]))]) hT ?_
  clear hT
  unfold edge_mapped_h1 at h0
  obtain ⟨o0, hl0, h0⟩ := bindE h0
  refine C_rangeG (fid := 104) (ys := []) (cs := [(.rp (eL e_api_Edge t13c0))]) #[14, 15] (fun (A : LoopA) (b lL : Nat) (st : ((List api_Edge) × Int × List api_Edge) ⊕ ((List api_Edge) × Int × List api_Edge)) (G' : Gs) => Sum.elim (fun (s : (List api_Edge) × Int × List api_Edge) => ∃ lo10 : Nat, G' = (lL, .raw (loopS b A .ready none)) :: (up [(lo7, 1, [(eL e_api_Edge s.1)]), (lo8, 1, [(eInt .i64 s.2.1)]), (lo9, 1, [(.msl 3 lo10 0 (List.length s.2.2))]), (lo10, 3, List.map e_api_Edge s.2.2)] ++ [])) (fun (s : (List api_Edge) × Int × List api_Edge) => ∃ lo10 : Nat, G' = (lL, .raw (loopS b A .done (some .ret))) :: (up [(lo7, 1, [(eL e_api_Edge s.1)]), (lo8, 1, [(eInt .i64 s.2.1)]), (lo9, 1, [(.msl 3 lo10 0 (List.length s.2.2))]), (lo10, 3, List.map e_api_Edge s.2.2)] ++ [])) st) (.inl (t4, t5, out6)) o0 (.tup []) (by kernel_rfl) (by kernel_rfl) (by kernel_rfl) hO (fun _ _ => ⟨lo10, rfl⟩) ?_ ?_
  · intro b lL
    clear hO h0
    refine w_edge_runs_1_G _ b (fun st t14 t15 => rnd (fun (s : (List api_Edge) × Int × List api_Edge) => edge_mapped_l1 by1 t13c0 s.1 s.2.1 s.2.2 t14 t15) st) ?_ t13c0 _ _ hl0
    intro st t14 t15 st2 rr hr
    obtain ⟨s, rfl, h1, rfl⟩ := rndE hr
    clear hr
    intro Hr Gr hi hg
    obtain ⟨t4, t5, out6⟩ := s
    dsimp only [Sum.elim_inl] at hi
    obtain ⟨lo10, rfl⟩ := hi
    replace h1 : edge_mapped_l1 by1 t13c0 t4 t5 out6 t14 t15 = some st2 := h1
    unfold edge_mapped_l1 at h1
    obtain ⟨E1, hE, hO⟩ := round_start hg
    refine fcall_yield (yield_of (hO.gm 0 _ rfl).2 (by kernel_rfl) (by kernel_rfl) ?_)
    refine C_hk [(3, (.rp (.fn (.func by1_f) by1_a by1_c))), (4, (.lp lo7 0 0)), (5, (.lp lo8 0 0)), (6, (.lp lo9 0 0)), (13, (.fn (.func 104) [] [(.rp (eL e_api_Edge t13c0))])), (14, (eL e_api_Value t14)), (15, (eL e_api_Jump t15))] ?_
    refine C_sq ?_
    refine C_rg ttOk 1 ?_
    refine R_al ?_
    refine E_tn [(3, (.rp (.fn (.func by1_f) by1_a by1_c))), (4, (.lp lo7 0 0)), (5, (.lp lo8 0 0)), (6, (.lp lo9 0 0)), (7, (eL e_api_Value t14)), (15, (eL e_api_Jump t15))] ?_
    refine C_rg ttOk 1 ?_
    refine R_al ?_
    refine E_hk [(3, (.rp (.fn (.func by1_f) by1_a by1_c))), (4, (.lp lo7 0 0)), (5, (.lp lo8 0 0)), (6, (.lp lo9 0 0)), (7, (eL e_api_Value t14)), (8, (eL e_api_Jump t15))] ?_
    refine E_done (⟨rfl, rfl, (hO.gm 0 _ rfl).2, ?_⟩)
    intro o1 ho1
    replace hO := hO.gset o1
    refine C_bk 1 ?_
    refine C_sq ?_
    refine C_rg ttOk 8 ?_
    refine R_pu 2 ?_
    obtain ⟨x11, hx12, h1⟩ := bindE h1
    refine R_cO by1_f (by1_a ++ [(eL e_api_Jump t15)] ++ by1_c) (.tup [(eL e_api_Jump x11.1), (eInt .i64 x11.2)]) (by1_h t15 _ hx12) hO ?_
    intro H hO
    refine R_al ?_
    refine E_tn [(4, (.lp lo7 0 0)), (5, (.lp lo8 0 0)), (6, (.lp lo9 0 0)), (7, (eL e_api_Value t14)), (9, (eL e_api_Jump x11.1)), (10, (eInt .i64 x11.2))] ?_
    refine C_sq ?_
    refine C_sq ?_
    refine C_rg ttOk 2 ?_
    refine R_al ?_
    refine E_tn [(4, (.lp lo7 0 0)), (5, (.lp lo8 0 0)), (6, (.lp lo9 0 0)), (7, (eL e_api_Value t14)), (9, (eL e_api_Jump x11.1)), (10, (eInt .i64 x11.2)), (23, (eBool (!decide (x11.2 = (0 : Int)))))] ?_
    refine C_cn (!decide (x11.2 = (0 : Int))) (fun hc14 => ?_) (fun hc14 => ?_)
    · replace h1 := condT hc14 h1
      refine C_sq ?_
      refine C_rg ttOk 3 ?_
      refine R_pu 1 ?_
      refine R_storeOL 0 lo7 1 0 (eL e_api_Edge t4) (.sl true 0 (fun _ => .bad)) [(eL e_api_Edge t4)] [(lo7, 1, [(.sl true 0 (fun _ => .bad))]), (lo8, 1, [(eInt .i64 t5)]), (lo9, 1, [(.msl 3 lo10 0 (List.length out6))]), (lo10, 3, List.map e_api_Edge out6)] (by kernel_rfl) (by kernel_rfl) (by kernel_rfl) hO (by kernel_rfl) rfl (by kernel_rfl) ?_
      intro H hO
      refine R_storeOL 1 lo8 1 0 (eInt .i64 t5) (eInt .i64 x11.2) [(eInt .i64 t5)] [(lo7, 1, [(.sl true 0 (fun _ => .bad))]), (lo8, 1, [(eInt .i64 x11.2)]), (lo9, 1, [(.msl 3 lo10 0 (List.length out6))]), (lo10, 3, List.map e_api_Edge out6)] (by kernel_rfl) (by kernel_rfl) (by kernel_rfl) hO (by kernel_rfl) rfl (by kernel_rfl) ?_
      intro H hO
      refine R_en ?_
      refine E_weaken 0 lo7 1 (.sl true 0 (fun _ => .bad)) (eL e_api_Edge ([])) [(lo7, 1, [(eL e_api_Edge ([]))]), (lo8, 1, [(eInt .i64 x11.2)]), (lo9, 1, [(.msl 3 lo10 0 (List.length out6))]), (lo10, 3, List.map e_api_Edge out6)] hO (by kernel_rfl) (by kernel_rfl) subNilL (by kernel_rfl) ?_
      intro H hO
      refine E_tn [(4, (.lp lo7 0 0)), (5, (.lp lo8 0 0)), (6, (.lp lo9 0 0))] ?_
      refine C_rt ?_
      refine E_hk [(4, (.lp lo7 0 0)), (5, (.lp lo8 0 0)), (6, (.lp lo9 0 0))] ?_
      obtain rfl := Option.some.inj h1
      exact E_done (thenA_ret (blockA_ret (⟨(round_end hO hE ho1 .dead).1, rfl, _, ⟨lo10, rfl⟩, (round_end hO hE ho1 _).2⟩)))
    replace h1 := condF hc14 h1
    refine C_sk ?_
    refine E_tn [(4, (.lp lo7 0 0)), (5, (.lp lo8 0 0)), (6, (.lp lo9 0 0)), (7, (eL e_api_Value t14)), (9, (eL e_api_Jump x11.1))] ?_
    refine C_sq ?_
    refine C_rg ttOk 5 ?_
    refine R_loadO [] 2 lo9 1 0 (.msl 3 lo10 0 (List.length out6)) (.msl 3 lo10 0 (List.length out6)) [(.msl 3 lo10 0 (List.length out6))] (by kernel_rfl) (by kernel_rfl) hO (by kernel_rfl) true (by kernel_rfl) (fun _ => rfl) ?_
    refine R_pu 3 ?_
    obtain ⟨x15, hx16, h1⟩ := bindE h1
    refine R_callA (L' := fun lo17 => [(lo7, 1, [(eL e_api_Edge t4)]), (lo8, 1, [(eInt .i64 t5)]), (lo9, 1, [(.msl 3 lo10 0 (List.length out6))]), (lo17, 3, List.map e_api_Edge x15)]) 3 lo10 3 (List.map e_api_Edge out6) (List.map e_api_Edge x15) 78 [(.msl 3 lo10 0 (List.length out6)), (eL e_api_Value t14), (eL e_api_Jump x11.1)] (fun lo17 => (.msl 3 lo17 0 (List.length x15))) (by kernel_rfl) (by kernel_rfl) (w_edge_put lo10 out6 t14 x11.1 _ hx16) hO (by kernel_rfl) (fun _ => by kernel_rfl) ?_
    intro lo17 H hO
    refine R_storeOL 2 lo9 1 0 (.msl 3 lo10 0 (List.length out6)) (.msl 3 lo17 0 (List.length x15)) [(.msl 3 lo10 0 (List.length out6))] [(lo7, 1, [(eL e_api_Edge t4)]), (lo8, 1, [(eInt .i64 t5)]), (lo9, 1, [(.msl 3 lo17 0 (List.length x15))]), (lo17, 3, List.map e_api_Edge x15)] (by kernel_rfl) (by kernel_rfl) (by kernel_rfl) hO (by kernel_rfl) rfl (by kernel_rfl) ?_
    intro H hO
    refine R_en ?_
    refine E_tn [(4, (.lp lo7 0 0)), (5, (.lp lo8 0 0)), (6, (.lp lo9 0 0))] ?_
    refine C_sq ?_
    refine C_rg ttOk 3 ?_
    refine R_loadO [] 2 lo9 1 0 (.msl 3 lo17 0 (List.length x15)) (.msl 3 lo17 0 (List.length x15)) [(.msl 3 lo17 0 (List.length x15))] (by kernel_rfl) (by kernel_rfl) hO (by kernel_rfl) true (by kernel_rfl) (fun _ => rfl) ?_
    refine R_al ?_
    refine E_tn [(4, (.lp lo7 0 0)), (5, (.lp lo8 0 0)), (6, (.lp lo9 0 0)), (31, (eBool (decide ((4096 : Int) < ((List.length x15 : Nat) : Int)))))] ?_
    refine C_cn (decide ((4096 : Int) < ((List.length x15 : Nat) : Int))) (fun hc18 => ?_) (fun hc18 => ?_)
    · replace h1 := condT hc18 h1
      refine C_sq ?_
      refine C_rg ttOk 2 ?_
      refine R_storeOL 0 lo7 1 0 (eL e_api_Edge t4) (.sl true 0 (fun _ => .bad)) [(eL e_api_Edge t4)] [(lo7, 1, [(.sl true 0 (fun _ => .bad))]), (lo8, 1, [(eInt .i64 t5)]), (lo9, 1, [(.msl 3 lo17 0 (List.length x15))]), (lo17, 3, List.map e_api_Edge x15)] (by kernel_rfl) (by kernel_rfl) (by kernel_rfl) hO (by kernel_rfl) rfl (by kernel_rfl) ?_
      intro H hO
      refine R_storeOL 1 lo8 1 0 (eInt .i64 t5) (eInt .i64 (7 : Int)) [(eInt .i64 t5)] [(lo7, 1, [(.sl true 0 (fun _ => .bad))]), (lo8, 1, [(eInt .i64 (7 : Int))]), (lo9, 1, [(.msl 3 lo17 0 (List.length x15))]), (lo17, 3, List.map e_api_Edge x15)] (by kernel_rfl) (by kernel_rfl) (by kernel_rfl) hO (by kernel_rfl) rfl (by kernel_rfl) ?_
      intro H hO
      refine R_en ?_
      refine E_weaken 0 lo7 1 (.sl true 0 (fun _ => .bad)) (eL e_api_Edge ([])) [(lo7, 1, [(eL e_api_Edge ([]))]), (lo8, 1, [(eInt .i64 (7 : Int))]), (lo9, 1, [(.msl 3 lo17 0 (List.length x15))]), (lo17, 3, List.map e_api_Edge x15)] hO (by kernel_rfl) (by kernel_rfl) subNilL (by kernel_rfl) ?_
      intro H hO
      refine E_tn [(4, (.lp lo7 0 0)), (5, (.lp lo8 0 0)), (6, (.lp lo9 0 0))] ?_
      refine C_rt ?_
      refine E_hk [(4, (.lp lo7 0 0)), (5, (.lp lo8 0 0)), (6, (.lp lo9 0 0))] ?_
      obtain rfl := Option.some.inj h1
      exact E_done (blockA_ret (⟨(round_end hO hE ho1 .dead).1, rfl, _, ⟨lo17, rfl⟩, (round_end hO hE ho1 _).2⟩))
    replace h1 := condF hc18 h1
    refine C_sk ?_
    refine E_hk [(4, (.lp lo7 0 0)), (5, (.lp lo8 0 0)), (6, (.lp lo9 0 0))] ?_
    obtain rfl := Option.some.inj h1
    exact E_done (blockA_normal (⟨(round_end hO hE ho1 .dead).1, rfl, _, ⟨lo17, rfl⟩, (round_end hO hE ho1 _).2⟩))
  · intro b lD lL H' G' hi hO
    rcases o0 with s | s
    · dsimp only [Sum.elim_inl] at hi
      obtain ⟨lo10, rfl⟩ := hi
      replace h0 : (some (s.2.2, (0 : Int))) = some r := h0
      obtain ⟨hlL, hO⟩ := after_loop hO
      refine ⟨_, _, hlL, (by intro e; cases e), ?_⟩
      refine E_hk [(4, (.lp lo7 0 0)), (5, (.lp lo8 0 0)), (6, (.lp lo9 0 0))] ?_
      refine E_done (blockA_normal (thenA_normal (?_)))
      refine C_sq ?_
      refine C_freezeIn (e := e_api_Edge) s.2.2 2 3 1 3 lo9 lo10 (List.length s.2.2) [(lo7, 1, [(eL e_api_Edge s.1)]), (lo8, 1, [(eInt .i64 s.2.1)]), (lo9, 1, [(eL e_api_Edge s.2.2)])] hO (by kernel_rfl) (by kernel_rfl) (by kernel_rfl) (.inr (by decide)) (by kernel_rfl) ?_
      intro H hO
      refine C_rg ttOk 3 ?_
      refine R_loadO [] 2 lo9 1 0 (eL e_api_Edge s.2.2) (eL e_api_Edge s.2.2) [(eL e_api_Edge s.2.2)] (by kernel_rfl) (by kernel_rfl) hO (by kernel_rfl) true (by kernel_rfl) (fun _ => rfl) ?_
      refine R_storeOL 0 lo7 1 0 (eL e_api_Edge s.1) (eL e_api_Edge s.2.2) [(eL e_api_Edge s.1)] [(lo7, 1, [(eL e_api_Edge s.2.2)]), (lo8, 1, [(eInt .i64 s.2.1)]), (lo9, 1, [(eL e_api_Edge s.2.2)])] (by kernel_rfl) (by kernel_rfl) (by kernel_rfl) hO (by kernel_rfl) rfl (by kernel_rfl) ?_
      intro H hO
      refine R_storeOL 1 lo8 1 0 (eInt .i64 s.2.1) (eInt .i64 (0 : Int)) [(eInt .i64 s.2.1)] [(lo7, 1, [(eL e_api_Edge s.2.2)]), (lo8, 1, [(eInt .i64 (0 : Int))]), (lo9, 1, [(eL e_api_Edge s.2.2)])] (by kernel_rfl) (by kernel_rfl) (by kernel_rfl) hO (by kernel_rfl) rfl (by kernel_rfl) ?_
      intro H hO
      refine R_en ?_
      refine E_hk [(4, (.lp lo7 0 0)), (5, (.lp lo8 0 0))] ?_
      replace hO := hO.pick (L' := [(lo7, 1, [(eL e_api_Edge s.2.2)]), (lo8, 1, [(eInt .i64 (0 : Int))])]) [0, 1] (by decide) (by kernel_rfl)
      refine E_done (thenA_normal (?_))
      refine C_rt ?_
      refine E_hk [(4, (.lp lo7 0 0)), (5, (.lp lo8 0 0))] ?_
      obtain rfl := Option.some.inj h0
      have hD := (hO.gm 0 _ rfl).2
      replace hO := (hO.gset .dead).gdrop
      exact E_done (QM1 (.inr rfl) hD (rs := [.cell 4 22, .cell 5 25]) (xs := [(eL e_api_Edge s.2.2), (eInt .i64 (0 : Int))]) (x := (.tup [(eL e_api_Edge s.2.2), (eInt .i64 (0 : Int))])) (by kernel_rfl) (resCell (lo := lo7) (k := 1) (y := (eL e_api_Edge s.2.2)) (x := (eL e_api_Edge s.2.2)) 0 hO (by kernel_rfl) (by kernel_rfl) (by kernel_rfl) (by kernel_rfl) (resCell (lo := lo8) (k := 1) (y := (eInt .i64 (0 : Int))) (x := (eInt .i64 (0 : Int))) 1 hO (by kernel_rfl) (by kernel_rfl) (by kernel_rfl) (by kernel_rfl) resNil)) (by kernel_rfl) ⟨rfl, hO.out⟩)
    · dsimp only [Sum.elim_inr] at hi
      obtain ⟨lo10, rfl⟩ := hi
      replace h0 : (some (s.1, s.2.1)) = some r := h0
      obtain ⟨hlL, hO⟩ := after_loop hO
      refine ⟨_, _, hlL, (by intro e; cases e), ?_⟩
      refine C_rt ?_
      refine E_hk [(4, (.lp lo7 0 0)), (5, (.lp lo8 0 0))] ?_
      replace hO := hO.pick (L' := [(lo7, 1, [(eL e_api_Edge s.1)]), (lo8, 1, [(eInt .i64 s.2.1)])]) [0, 1] (by decide) (by kernel_rfl)
      obtain rfl := Option.some.inj h0
      have hD := (hO.gm 0 _ rfl).2
      replace hO := (hO.gset .dead).gdrop
      exact E_done (blockA_ret (thenA_ret (QM1 (.inr rfl) hD (rs := [.cell 4 22, .cell 5 25]) (xs := [(eL e_api_Edge s.1), (eInt .i64 s.2.1)]) (x := (.tup [(eL e_api_Edge s.1), (eInt .i64 s.2.1)])) (by kernel_rfl) (resCell (lo := lo7) (k := 1) (y := (eL e_api_Edge s.1)) (x := (eL e_api_Edge s.1)) 0 hO (by kernel_rfl) (by kernel_rfl) (by kernel_rfl) (by kernel_rfl) (resCell (lo := lo8) (k := 1) (y := (eInt .i64 s.2.1)) (x := (eInt .i64 s.2.1)) 1 hO (by kernel_rfl) (by kernel_rfl) (by kernel_rfl) (by kernel_rfl) resNil)) (by kernel_rfl) ⟨rfl, hO.out⟩)))

theorem w_slices_IndexFunc_api_Jump_api_Jump (s0 : (List api_Jump)) (f1_f : Nat) (f1_a f1_c : List V) (f1 : api_Jump → Option Bool) (f1_h : ∀ a0 r, f1 a0 = some r → Fine Try.prog f1_f (f1_a ++ [(e_api_Jump a0)] ++ f1_c) (eBool r)) (r : Int) (h0 : s_slices_IndexFunc_api_Jump_api_Jump s0 f1 = some r) : Fine Try.prog 116 [(eL e_api_Jump s0), (.fn (.func f1_f) f1_a f1_c)] (eInt .i64 r) := by
  intro H0
  refine F_walk Try.func116 (by kernel_rfl) (by kernel_rfl) (by kernel_rfl) ?_
  have hO := Owns.start H0
  unfold s_slices_IndexFunc_api_Jump_api_Jump at h0
  refine C_sq ?_
  refine C_rg ttOk 1 ?_
  refine R_al ?_
  refine E_tn [(0, (eL e_api_Jump s0)), (1, (.fn (.func f1_f) f1_a f1_c))] ?_
  refine C_seqJ (by kernel_rfl) (fun T H => Has T [] ∧ Owns ⟨H0, [], []⟩ H [] ∧ slices_IndexFunc_api_Jump_api_Jump_j1 f1  = some r) ?_ ?_
  · clear hO h0
    rintro T H ⟨hT, hO, h0⟩
    refine C_has hT ?_
    clear hT
    unfold slices_IndexFunc_api_Jump_api_Jump_j1 at h0
    refine C_sq ?_
    refine C_rg ttOk 1 ?_
    refine R_al ?_
    refine E_tn [(4, (eInt .i64 (-1 : Int)))] ?_
    refine C_rt ?_
    refine E_hk [(4, (eInt .i64 (-1 : Int)))] ?_
    obtain rfl := Option.some.inj h0
    exact E_done (Q_ret (x := (eInt .i64 (-1 : Int))) (by kernel_rfl) (SubV.refl _) ⟨rfl, hO.out⟩)
  refine C_sq ?_
  refine C_rg ttOk 3 ?_
  refine R_al ?_
  refine E_tn [(0, (eL e_api_Jump s0)), (1, (.fn (.func f1_f) f1_a f1_c)), (7, (eInt .i64 ((List.length s0 : Nat) : Int))), (8, (eInt .i64 (0 : Int)))] ?_
  refine C_bk 0 ?_
  refine C_hk [(0, (eL e_api_Jump s0)), (1, (.fn (.func f1_f) f1_a f1_c)), (7, (eInt .i64 ((List.length s0 : Nat) : Int))), (8, (eInt .i64 (0 : Int)))] ?_
  refine C_cut (fun T H => ∃ t7 : Int, ∃ t8 : Int, Has T [(0, (eL e_api_Jump s0)), (1, (.fn (.func f1_f) f1_a f1_c)), (7, (eInt .i64 t7)), (8, (eInt .i64 t8))] ∧ Owns ⟨H0, [], []⟩ H [] ∧ slices_IndexFunc_api_Jump_api_Jump_h2 f1 s0 t7 t8 = some r) ?_ ⟨((List.length s0 : Nat) : Int), (0 : Int), .eq (by kernel_rfl), hO, h0⟩
  clear hO h0
  rintro T H ⟨t7, t8, hT, hO, h0⟩
  refine C_has hT ?_
  clear hT
  unfold slices_IndexFunc_api_Jump_api_Jump_h2 at h0
  obtain ⟨rr0, hl0, h0⟩ := bindE h0
  refine C_loopS (by kernel_rfl) (fun (s : Int) T H => Has T [(0, (eL e_api_Jump s0)), (1, (.fn (.func f1_f) f1_a f1_c)), (7, (eInt .i64 t7)), (8, (eInt .i64 s))] ∧ Owns ⟨H0, [], []⟩ H []) hl0 ⟨.eq (by kernel_rfl), hO⟩ ?_
  clear hO
  rintro k0 s out1 T H ⟨hT, hO⟩ h1 ho0
  obtain ⟨t8, rfl⟩ : ∃ x, x = s := ⟨_, rfl⟩
  replace h1 : slices_IndexFunc_api_Jump_api_Jump_l2 f1 s0 t7 t8 = some out1 := h1
  refine C_has (l := [(0, (eL e_api_Jump s0)), (1, (.fn (.func f1_f) f1_a f1_c)), (7, (eInt .i64 t7)), (8, (eInt .i64 t8))]) hT ?_
  clear hT
  unfold slices_IndexFunc_api_Jump_api_Jump_l2 at h1
  refine C_sq ?_
  refine C_rg ttOk 1 ?_
  refine R_al ?_
  refine E_tn [(0, (eL e_api_Jump s0)), (1, (.fn (.func f1_f) f1_a f1_c)), (7, (eInt .i64 t7)), (8, (eInt .i64 t8)), (9, (eBool (decide (t8 < t7))))] ?_
  refine C_sq ?_
  refine C_cn (decide (t8 < t7)) (fun hc1 => ?_) (fun hc1 => ?_)
  · replace h1 := condT hc1 h1
    refine C_sk ?_
    refine E_tn [(0, (eL e_api_Jump s0)), (1, (.fn (.func f1_f) f1_a f1_c)), (7, (eInt .i64 t7)), (8, (eInt .i64 t8))] ?_
    refine C_sq ?_
    refine C_bk 1 ?_
    refine C_sq ?_
    refine C_rg ttOk 2 ?_
    refine R_al ?_
    refine E_tn [(0, (eL e_api_Jump s0)), (1, (.fn (.func f1_f) f1_a f1_c)), (5, (eInt .i64 t8)), (7, (eInt .i64 t7)), (8, (eInt .i64 t8))] ?_
    refine C_sq ?_
    refine C_rg ttOk 6 ?_
    obtain ⟨c2, h1⟩ := asrtE h1
    refine R_pure 5 (by kernel_rfl) (Ds := [0 ≤ t8 ∧ t8 < ((List.length s0 : Nat) : Int)]) (by kernel_rfl) ⟨c2, trivial⟩ ?_
    obtain ⟨x3, hx4, h1⟩ := bindE h1
    refine R_cO f1_f (f1_a ++ [(e_api_Jump (List.getD s0 (Int.toNat t8) default))] ++ f1_c) (eBool x3) (f1_h (List.getD s0 (Int.toNat t8) default) _ hx4) hO ?_
    intro H hO
    refine R_en ?_
    refine E_tn [(0, (eL e_api_Jump s0)), (1, (.fn (.func f1_f) f1_a f1_c)), (5, (eInt .i64 t8)), (7, (eInt .i64 t7)), (8, (eInt .i64 t8)), (16, (eBool x3))] ?_
    refine C_cn (x3) (fun hc6 => ?_) (fun hc6 => ?_)
    · replace h1 := condT hc6 h1
      refine C_sq ?_
      refine C_rg ttOk 2 ?_
      refine R_al ?_
      refine E_tn [(4, (eInt .i64 t8))] ?_
      refine C_rt ?_
      refine E_hk [(4, (eInt .i64 t8))] ?_
      obtain rfl := Option.some.inj h1
      obtain rfl : _ = rr0 := ho0
      replace h0 : some t8 = some r := h0
      obtain rfl := Option.some.inj h0
      exact E_done (blockA_ret (thenA_ret (thenA_ret (blockA_ret (thenA_ret (Q_ret (x := (eInt .i64 t8)) (by kernel_rfl) (SubV.refl _) ⟨rfl, hO.out⟩))))))
    replace h1 := condF hc6 h1
    refine C_sk ?_
    refine E_hk [(0, (eL e_api_Jump s0)), (1, (.fn (.func f1_f) f1_a f1_c)), (7, (eInt .i64 t7)), (8, (eInt .i64 t8))] ?_
    refine E_done (blockA_normal (thenA_normal (?_)))
    refine C_rg ttOk 2 ?_
    refine R_al ?_
    refine E_hk [(0, (eL e_api_Jump s0)), (1, (.fn (.func f1_f) f1_a f1_c)), (7, (eInt .i64 t7)), (8, (eInt .i64 (IntKind.i64.wrap (t8 + (1 : Int)))))] ?_
    exact E_done (thenA_normal (⟨rfl, IntKind.i64.wrap (t8 + (1 : Int)), (Option.some.inj h1).symm, .eq (by kernel_rfl), hO⟩))
  replace h1 := condF hc1 h1
  refine C_ex 0 ?_
  refine E_hk [] ?_
  obtain rfl := Option.some.inj h1
  obtain rfl : _ = rr0 := ho0
  replace h0 : slices_IndexFunc_api_Jump_api_Jump_j1 f1  = some r := h0
  exact E_done (thenA_exit (thenA_exit (blockA_hit (thenA_normal (⟨rfl, .eq (by kernel_rfl), hO, h0⟩)))))

theorem w_slices_ContainsFunc_api_Jump_api_Jump (s0 : (List api_Jump)) (f1_f : Nat) (f1_a f1_c : List V) (f1 : api_Jump → Option Bool) (f1_h : ∀ a0 r, f1 a0 = some r → Fine Try.prog f1_f (f1_a ++ [(e_api_Jump a0)] ++ f1_c) (eBool r)) (r : Bool) (h0 : s_slices_ContainsFunc_api_Jump_api_Jump s0 f1 = some r) : Fine Try.prog 96 [(eL e_api_Jump s0), (.fn (.func f1_f) f1_a f1_c)] (eBool r) := by
  intro H0
  refine F_walk Try.func96 (by kernel_rfl) (by kernel_rfl) (by kernel_rfl) ?_
  have hO := Owns.start H0
  unfold s_slices_ContainsFunc_api_Jump_api_Jump at h0
  refine C_sq ?_
  refine C_rg ttOk 1 ?_
  refine R_al ?_
  refine E_tn [(0, (eL e_api_Jump s0)), (1, (.fn (.func f1_f) f1_a f1_c))] ?_
  refine C_sq ?_
  refine C_rg ttOk 5 ?_
  refine R_pu 2 ?_
  obtain ⟨x1, hx2, h0⟩ := bindE h0
  refine R_cO 116 [(eL e_api_Jump s0), (.fn (.func f1_f) f1_a f1_c)] (eInt .i64 x1) (w_slices_IndexFunc_api_Jump_api_Jump s0 f1_f f1_a f1_c f1 f1_h _ hx2) hO ?_
  intro H hO
  refine R_al ?_
  refine E_tn [(4, (eBool (decide ((0 : Int) ≤ x1))))] ?_
  refine C_rt ?_
  refine E_hk [(4, (eBool (decide ((0 : Int) ≤ x1))))] ?_
  obtain rfl := Option.some.inj h0
  exact E_done (Q_ret (x := (eBool (decide ((0 : Int) ≤ x1)))) (by kernel_rfl) (SubV.refl _) ⟨rfl, hO.out⟩)

theorem w_step_Norm_1 (j0 : api_Jump) (r : Bool) (h0 : s_step_Norm_1 j0 = some r) : Fine Try.prog 97 [(e_api_Jump j0)] (eBool r) := by
  intro H0
  refine F_walk Try.func97 (by kernel_rfl) (by kernel_rfl) (by kernel_rfl) ?_
  have hO := Owns.start H0
  unfold s_step_Norm_1 at h0
  refine C_sq ?_
  refine C_rg ttOk 2 ?_
  refine R_boxF 2 (e_api_Jump j0) (by kernel_rfl) (by kernel_rfl) ?_
  refine R_al ?_
  refine E_tn [(1, (.rp (e_api_Jump j0)))] ?_
  refine C_sq ?_
  refine C_rg ttOk 5 ?_
  refine R_pu 2 ?_
  obtain ⟨x1, hx2, h0⟩ := bindE h0
  refine R_cO 85 [(eInt .i64 j0.Net)] (eBool x1) (w_step_fair j0.Net _ hx2) hO ?_
  intro H hO
  refine R_al ?_
  refine E_tn [(2, (eBool (!x1)))] ?_
  refine C_rt ?_
  refine E_hk [(2, (eBool (!x1)))] ?_
  obtain rfl := Option.some.inj h0
  exact E_done (Q_ret (x := (eBool (!x1))) (by kernel_rfl) (SubV.refl _) ⟨rfl, hO.out⟩)

theorem w_step_Norm_2 (j0 : api_Jump) (r : Bool) (h0 : s_step_Norm_2 j0 = some r) : Fine Try.prog 98 [(e_api_Jump j0)] (eBool r) := by
  intro H0
  refine F_walk Try.func98 (by kernel_rfl) (by kernel_rfl) (by kernel_rfl) ?_
  have hO := Owns.start H0
  unfold s_step_Norm_2 at h0
  refine C_sq ?_
  refine C_rg ttOk 2 ?_
  refine R_boxF 2 (e_api_Jump j0) (by kernel_rfl) (by kernel_rfl) ?_
  refine R_al ?_
  refine E_tn [(1, (.rp (e_api_Jump j0)))] ?_
  refine C_sq ?_
  refine C_rg ttOk 9 ?_
  refine R_al ?_
  refine E_tn [(2, (eBool ((decide (j0.At < (-1 : Int))) || (decide ((1125899906842624 : Int) < j0.At)))))] ?_
  refine C_rt ?_
  refine E_hk [(2, (eBool ((decide (j0.At < (-1 : Int))) || (decide ((1125899906842624 : Int) < j0.At)))))] ?_
  obtain rfl := Option.some.inj h0
  exact E_done (Q_ret (x := (eBool ((decide (j0.At < (-1 : Int))) || (decide ((1125899906842624 : Int) < j0.At))))) (by kernel_rfl) (SubV.refl _) ⟨rfl, hO.out⟩)

theorem w_slices_Clone_api_Jump_api_Jump (s0 : (List api_Jump)) (r : (List api_Jump)) (h0 : s_slices_Clone_api_Jump_api_Jump s0 = some r) : FineO Try.prog 99 [(eL e_api_Jump s0)] (fun lo => (.msl 2 lo 0 (List.length r))) 2 (List.map e_api_Jump r) := by
  intro H0
  refine F_walk Try.func99 (by kernel_rfl) (by kernel_rfl) (by kernel_rfl) ?_
  have hO := Owns.start H0
  unfold s_slices_Clone_api_Jump_api_Jump at h0
  refine C_sq ?_
  refine C_rg ttOk 1 ?_
  refine R_al ?_
  refine E_tn [(0, (eL e_api_Jump s0))] ?_
  refine C_sq ?_
  refine C_sq ?_
  refine C_rg ttOk 2 ?_
  refine R_pu 1 ?_
  refine R_nil false (List.length s0) (fun i => e_api_Jump (List.getD s0 i default)) (by kernel_rfl) (by kernel_rfl) ?_
  intro b1 hn2
  refine R_en ?_
  refine E_tn [(0, (eL e_api_Jump s0)), (4, (eBool b1))] ?_
  refine C_cn (b1) (fun hc3 => ?_) (fun hc3 => ?_)
  · replace h0 : some ([] : List api_Jump) = some r := by
      have hl := List.eq_nil_of_length_eq_zero (hn2 hc3)
      rw [hl] at h0
      exact (asrtE h0).2
    refine C_sq ?_
    refine C_rg ttOk 1 ?_
    refine R_al ?_
    refine E_tn [(2, (.sl true 0 (fun _ => .bad)))] ?_
    refine C_rt ?_
    refine E_hk [(2, (.sl true 0 (fun _ => .bad)))] ?_
    refine E_ownO (el := (fun _ => .bad)) 0 2 2 hO (by kernel_rfl) ?_
    intro lo4 H5 hO
    obtain rfl := Option.some.inj h0
    exact E_done (thenA_ret (Q_ret (x := (.msl 2 lo4 0 (List.length ([] : List api_Jump)))) (by kernel_rfl) (SubV.refl _) ⟨lo4, rfl, hO⟩))
  · refine C_sk ?_
    refine E_tn [(0, (eL e_api_Jump s0))] ?_
    refine C_sq ?_
    refine C_rg ttOk 4 ?_
    refine R_bsl (xs := []) (k := 2) (by kernel_rfl) (by kernel_rfl) ?_
    refine R_pu 2 ?_
    obtain ⟨c7, h0⟩ := asrtE h0
    refine R_appNL (e := e_api_Jump) s0 (fun _ => .bad) 2 16 (eL e_api_Jump s0) (fun lo6 => [(lo6, 2, List.map e_api_Jump s0)]) (by kernel_rfl) (by kernel_rfl) hO (appX_eL (fun _ => by kernel_rfl)) c7 (fun _ => by kernel_rfl) ?_
    intro lo6 H hO
    refine R_al ?_
    refine E_tn [(2, (.msl 2 lo6 0 (List.length s0)))] ?_
    refine C_rt ?_
    refine E_hk [(2, (.msl 2 lo6 0 (List.length s0)))] ?_
    obtain rfl := Option.some.inj h0
    exact E_done (Q_ret (x := (.msl 2 lo6 0 (List.length s0))) (by kernel_rfl) (SubV.refl _) ⟨lo6, rfl, hO⟩)

theorem w_slices_insertionSortCmpFunc_api_Jump (lo0p : Nat) (data0 : (List api_Jump)) (a1 : Int) (b2 : Int) (cmp3_f : Nat) (cmp3_a cmp3_c : List V) (cmp3 : api_Jump → api_Jump → Option Int) (cmp3_h : ∀ a0 a1 r, cmp3 a0 a1 = some r → Fine Try.prog cmp3_f (cmp3_a ++ [(e_api_Jump a0), (e_api_Jump a1)] ++ cmp3_c) (eInt .i64 r)) (r : List api_Jump) (h0 : s_slices_insertionSortCmpFunc_api_Jump data0 a1 b2 cmp3 = some r) : FineI Try.prog 121 lo0p 2 (List.map e_api_Jump data0) (List.map e_api_Jump r) [(.msl 2 lo0p 0 (List.length data0)), (eInt .i64 a1), (eInt .i64 b2), (.fn (.func cmp3_f) cmp3_a cmp3_c)] (.tup []) := by
  intro H0 hl0
  refine F_walk Try.func121 (by kernel_rfl) (by kernel_rfl) (by kernel_rfl) ?_
  have hO := Owns.start1 hl0
  clear hl0
  obtain ⟨N0, hN0⟩ : ∃ n, n = List.length data0 := ⟨_, rfl⟩
  have hN : List.length data0 = N0 := hN0.symm
  unfold s_slices_insertionSortCmpFunc_api_Jump at h0
  refine C_sq ?_
  refine C_rg ttOk 3 ?_
  refine R_al ?_
  refine E_tn [(0, (.msl 2 lo0p 0 (List.length data0))), (1, (eInt .i64 a1)), (2, (eInt .i64 b2)), (3, (.fn (.func cmp3_f) cmp3_a cmp3_c)), (8, (eInt .i64 (IntKind.i64.wrap (a1 + (1 : Int)))))] ?_
  refine C_bk 0 ?_
  refine C_hk [(0, (.msl 2 lo0p 0 (List.length data0))), (1, (eInt .i64 a1)), (2, (eInt .i64 b2)), (3, (.fn (.func cmp3_f) cmp3_a cmp3_c)), (8, (eInt .i64 (IntKind.i64.wrap (a1 + (1 : Int)))))] ?_
  refine C_cut (fun T H => ∃ data0 : List api_Jump, ∃ i8 : Int, Has T [(0, (.msl 2 lo0p 0 (List.length data0))), (1, (eInt .i64 a1)), (2, (eInt .i64 b2)), (3, (.fn (.func cmp3_f) cmp3_a cmp3_c)), (8, (eInt .i64 i8))] ∧ Owns ⟨H0, [lo0p], []⟩ H [(lo0p, 2, List.map e_api_Jump data0)] ∧ List.length data0 = N0 ∧ slices_insertionSortCmpFunc_api_Jump_h1 cmp3 data0 a1 b2 i8 = some r) ?_ ⟨data0, IntKind.i64.wrap (a1 + (1 : Int)), .eq (by kernel_rfl), hO, hN, h0⟩
  clear hO hN h0
  rintro T H ⟨data0, i8, hT, hO, hN, h0⟩
  refine C_has hT ?_
  clear hT
  unfold slices_insertionSortCmpFunc_api_Jump_h1 at h0
  obtain ⟨rr0, hl0, h0⟩ := bindE h0
  refine C_loopS (by kernel_rfl) (fun (s : List api_Jump × Int) T H => Has T [(0, (.msl 2 lo0p 0 (List.length s.1))), (1, (eInt .i64 a1)), (2, (eInt .i64 b2)), (3, (.fn (.func cmp3_f) cmp3_a cmp3_c)), (8, (eInt .i64 s.2))] ∧ Owns ⟨H0, [lo0p], []⟩ H [(lo0p, 2, List.map e_api_Jump s.1)] ∧ List.length s.1 = N0) hl0 ⟨.eq (by kernel_rfl), hO, hN⟩ ?_
  clear hO hN
  rintro k0 s out1 T H ⟨hT, hO, hN⟩ h1 ho0
  obtain ⟨data0, i8⟩ := s
  replace h1 : slices_insertionSortCmpFunc_api_Jump_l1 cmp3 a1 b2 data0 i8 = some out1 := h1
  refine C_has (l := [(0, (.msl 2 lo0p 0 (List.length data0))), (1, (eInt .i64 a1)), (2, (eInt .i64 b2)), (3, (.fn (.func cmp3_f) cmp3_a cmp3_c)), (8, (eInt .i64 i8))]) hT ?_
  clear hT
  unfold slices_insertionSortCmpFunc_api_Jump_l1 at h1
  refine C_sq ?_
  refine C_sq ?_
  refine C_rg ttOk 3 ?_
  refine R_al ?_
  refine E_tn [(0, (.msl 2 lo0p 0 (List.length data0))), (1, (eInt .i64 a1)), (2, (eInt .i64 b2)), (3, (.fn (.func cmp3_f) cmp3_a cmp3_c)), (8, (eInt .i64 i8)), (14, (eBool (decide (i8 < b2))))] ?_
  refine C_cn (decide (i8 < b2)) (fun hc1 => ?_) (fun hc1 => ?_)
  · replace h1 := condT hc1 h1
    refine C_sk ?_
    refine E_tn [(0, (.msl 2 lo0p 0 (List.length data0))), (1, (eInt .i64 a1)), (2, (eInt .i64 b2)), (3, (.fn (.func cmp3_f) cmp3_a cmp3_c)), (8, (eInt .i64 i8))] ?_
    refine C_seqJ (by kernel_rfl) (fun T H => ∃ data0 : List api_Jump, Has T [(0, (.msl 2 lo0p 0 (List.length data0))), (1, (eInt .i64 a1)), (2, (eInt .i64 b2)), (3, (.fn (.func cmp3_f) cmp3_a cmp3_c)), (8, (eInt .i64 i8))] ∧ Owns ⟨H0, [lo0p], []⟩ H [(lo0p, 2, List.map e_api_Jump data0)] ∧ List.length data0 = N0 ∧ slices_insertionSortCmpFunc_api_Jump_j2 cmp3 data0 a1 b2 i8 = some out1) ?_ ?_
    · clear hO hN h1
      rintro T H ⟨data0, hT, hO, hN, h1⟩
      refine C_has hT ?_
      clear hT
      unfold slices_insertionSortCmpFunc_api_Jump_j2 at h1
      refine C_rg ttOk 3 ?_
      refine R_al ?_
      refine E_hk [(0, (.msl 2 lo0p 0 (List.length data0))), (1, (eInt .i64 a1)), (2, (eInt .i64 b2)), (3, (.fn (.func cmp3_f) cmp3_a cmp3_c)), (8, (eInt .i64 (IntKind.i64.wrap (i8 + (1 : Int)))))] ?_
      exact E_done (thenA_normal (⟨rfl, (data0, IntKind.i64.wrap (i8 + (1 : Int))), (Option.some.inj h1).symm, .eq (by kernel_rfl), hO, hN⟩))
    refine C_bk 1 ?_
    refine C_sq ?_
    refine C_rg ttOk 2 ?_
    refine R_al ?_
    refine E_tn [(0, (.msl 2 lo0p 0 (List.length data0))), (1, (eInt .i64 a1)), (2, (eInt .i64 b2)), (3, (.fn (.func cmp3_f) cmp3_a cmp3_c)), (8, (eInt .i64 i8)), (9, (eInt .i64 i8))] ?_
    refine C_bk 2 ?_
    refine C_hk [(0, (.msl 2 lo0p 0 (List.length data0))), (1, (eInt .i64 a1)), (2, (eInt .i64 b2)), (3, (.fn (.func cmp3_f) cmp3_a cmp3_c)), (8, (eInt .i64 i8)), (9, (eInt .i64 i8))] ?_
    refine C_cut (fun T H => ∃ data0 : List api_Jump, ∃ j9 : Int, Has T [(0, (.msl 2 lo0p 0 (List.length data0))), (1, (eInt .i64 a1)), (2, (eInt .i64 b2)), (3, (.fn (.func cmp3_f) cmp3_a cmp3_c)), (8, (eInt .i64 i8)), (9, (eInt .i64 j9))] ∧ Owns ⟨H0, [lo0p], []⟩ H [(lo0p, 2, List.map e_api_Jump data0)] ∧ List.length data0 = N0 ∧ slices_insertionSortCmpFunc_api_Jump_h3 cmp3 data0 a1 b2 i8 j9 = some out1) ?_ ⟨data0, i8, .eq (by kernel_rfl), hO, hN, h1⟩
    clear hO hN h1
    rintro T H ⟨data0, j9, hT, hO, hN, h1⟩
    refine C_has hT ?_
    clear hT
    unfold slices_insertionSortCmpFunc_api_Jump_h3 at h1
    obtain ⟨rr1, hl1, h1⟩ := bindE h1
    refine C_loopS (by kernel_rfl) (fun (s : List api_Jump × Int) T H => Has T [(0, (.msl 2 lo0p 0 (List.length s.1))), (1, (eInt .i64 a1)), (2, (eInt .i64 b2)), (3, (.fn (.func cmp3_f) cmp3_a cmp3_c)), (8, (eInt .i64 i8)), (9, (eInt .i64 s.2))] ∧ Owns ⟨H0, [lo0p], []⟩ H [(lo0p, 2, List.map e_api_Jump s.1)] ∧ List.length s.1 = N0) hl1 ⟨.eq (by kernel_rfl), hO, hN⟩ ?_
    clear hO hN
    rintro k1 s out2 T H ⟨hT, hO, hN⟩ h2 ho1
    obtain ⟨data0, j9⟩ := s
    replace h2 : slices_insertionSortCmpFunc_api_Jump_l3 cmp3 a1 b2 i8 data0 j9 = some out2 := h2
    refine C_has (l := [(0, (.msl 2 lo0p 0 (List.length data0))), (1, (eInt .i64 a1)), (2, (eInt .i64 b2)), (3, (.fn (.func cmp3_f) cmp3_a cmp3_c)), (8, (eInt .i64 i8)), (9, (eInt .i64 j9))]) hT ?_
    clear hT
    unfold slices_insertionSortCmpFunc_api_Jump_l3 at h2
    refine C_sq ?_
    refine C_sq ?_
    obtain ⟨c2, h2⟩ := asrtE h2
    obtain ⟨c3, h2⟩ := asrtE h2
    obtain ⟨x4, hx5, h2⟩ := bindE h2
    refine A_cl (C_draw (pl := plOf []) ttOk (by kernel_rfl) (n := 17) (by kernel_rfl) (by kernel_rfl) (by kernel_rfl) ?_)
    refine D_mono (K := fun T H => Has (lift T) [(0, (.msl 2 lo0p 0 (List.length data0))), (1, (eInt .i64 a1)), (2, (eInt .i64 b2)), (3, (.fn (.func cmp3_f) cmp3_a cmp3_c)), (8, (eInt .i64 i8)), (9, (eInt .i64 j9)), (34, (eBool ((decide (a1 < j9)) && (decide (x4 < (0 : Int))))))] ∧ Owns ⟨H0, [lo0p], []⟩ H [(lo0p, 2, List.map e_api_Jump data0)]) ?_ ?_
    · refine D_pu 4 ?_
      refine D_split (t := 21) (e := decide (a1 < j9)) (by kernel_rfl) (fun hg6 => ?_) (fun hg6 => ?_)
      · refine D_pure 8 (by kernel_rfl) (Ds := [0 ≤ j9 ∧ j9 < ((List.length data0 : Nat) : Int)]) (by kernel_rfl) ⟨(c2 (by first | (simp only [hg6, Bool.not_true, Bool.not_false, Bool.true_and, Bool.and_true, Bool.false_and, Bool.and_false, Bool.or_true, Bool.true_or, Bool.or_false, Bool.false_or, cond_true, cond_false]; done) | simp [hg6])), trivial⟩ ?_
        refine D_loadV 0 lo0p 2 (0 + Int.toNat j9) (e_api_Jump (List.getD data0 (Int.toNat j9) default)) (e_api_Jump (List.getD data0 (Int.toNat j9) default)) (List.map e_api_Jump data0) (by kernel_rfl) (by kernel_rfl) (by kernel_rfl) hO (by kernel_rfl) (ownGet (c2 (by first | (simp only [hg6, Bool.not_true, Bool.not_false, Bool.true_and, Bool.and_true, Bool.false_and, Bool.and_false, Bool.or_true, Bool.true_or, Bool.or_false, Bool.false_or, cond_true, cond_false]; done) | simp [hg6]))) ?_
        refine D_pure 13 (by kernel_rfl) (Ds := [0 ≤ (IntKind.i64.wrap (j9 - (1 : Int))) ∧ (IntKind.i64.wrap (j9 - (1 : Int))) < ((List.length data0 : Nat) : Int)]) (by kernel_rfl) ⟨(c3 (by first | (simp only [hg6, Bool.not_true, Bool.not_false, Bool.true_and, Bool.and_true, Bool.false_and, Bool.and_false, Bool.or_true, Bool.true_or, Bool.or_false, Bool.false_or, cond_true, cond_false]; done) | simp [hg6])), trivial⟩ ?_
        refine D_loadV 0 lo0p 2 (0 + Int.toNat (IntKind.i64.wrap (j9 - (1 : Int)))) (e_api_Jump (List.getD data0 (Int.toNat (IntKind.i64.wrap (j9 - (1 : Int)))) default)) (e_api_Jump (List.getD data0 (Int.toNat (IntKind.i64.wrap (j9 - (1 : Int)))) default)) (List.map e_api_Jump data0) (by kernel_rfl) (by kernel_rfl) (by kernel_rfl) hO (by kernel_rfl) (ownGet (c3 (by first | (simp only [hg6, Bool.not_true, Bool.not_false, Bool.true_and, Bool.and_true, Bool.false_and, Bool.and_false, Bool.or_true, Bool.true_or, Bool.or_false, Bool.false_or, cond_true, cond_false]; done) | simp [hg6]))) ?_
        refine D_callV cmp3_f (cmp3_a ++ [(e_api_Jump (List.getD data0 (Int.toNat j9) default)), (e_api_Jump (List.getD data0 (Int.toNat (IntKind.i64.wrap (j9 - (1 : Int)))) default))] ++ cmp3_c) (eInt .i64 x4) (by kernel_rfl) (by kernel_rfl) (cmp3_h (List.getD data0 (Int.toNat j9) default) (List.getD data0 (Int.toNat (IntKind.i64.wrap (j9 - (1 : Int)))) default) _ (gcallE hx5 (by first | (simp only [hg6, Bool.not_true, Bool.not_false, Bool.true_and, Bool.and_true, Bool.false_and, Bool.and_false, Bool.or_true, Bool.true_or, Bool.or_false, Bool.false_or, cond_true, cond_false]; done) | simp [hg6]))) hO ?_
        intro H hO
        refine D_al ?_
        exact ⟨⟨[(0, (.msl 2 lo0p 0 (List.length data0))), (1, (eInt .i64 a1)), (2, (eInt .i64 b2)), (3, (.fn (.func cmp3_f) cmp3_a cmp3_c)), (8, (eInt .i64 i8)), (9, (eInt .i64 j9)), (34, (eBool (decide (x4 < (0 : Int)))))], by kernel_rfl, rfl, ⟨SubV.refl _, SubV.refl _, SubV.refl _, SubV.refl _, SubV.refl _, SubV.refl _, SubV.eq (by first | (simp only [eBool, hg6, Bool.not_true, Bool.not_false, Bool.true_and, Bool.and_true, Bool.false_and, Bool.and_false, Bool.or_true, Bool.true_or, Bool.or_false, Bool.false_or, cond_true, cond_false]; done) | simp [eBool, hg6]), trivial⟩⟩, hO⟩
      refine D_al ?_
      exact ⟨⟨[(0, (.msl 2 lo0p 0 (List.length data0))), (1, (eInt .i64 a1)), (2, (eInt .i64 b2)), (3, (.fn (.func cmp3_f) cmp3_a cmp3_c)), (8, (eInt .i64 i8)), (9, (eInt .i64 j9)), (34, (eBool false))], by kernel_rfl, rfl, ⟨SubV.refl _, SubV.refl _, SubV.refl _, SubV.refl _, SubV.refl _, SubV.refl _, SubV.eq (by first | (simp only [eBool, hg6, Bool.not_true, Bool.not_false, Bool.true_and, Bool.and_true, Bool.false_and, Bool.and_false, Bool.or_true, Bool.true_or, Bool.or_false, Bool.false_or, cond_true, cond_false]; done) | simp [eBool, hg6]), trivial⟩⟩, hO⟩
    · rintro T H ⟨hT, hO⟩
      refine E_has hT ?_
      clear hT
      refine E_tn [(0, (.msl 2 lo0p 0 (List.length data0))), (1, (eInt .i64 a1)), (2, (eInt .i64 b2)), (3, (.fn (.func cmp3_f) cmp3_a cmp3_c)), (8, (eInt .i64 i8)), (9, (eInt .i64 j9)), (34, (eBool ((decide (a1 < j9)) && (decide (x4 < (0 : Int))))))] ?_
      refine C_cn ((decide (a1 < j9)) && (decide (x4 < (0 : Int)))) (fun hc7 => ?_) (fun hc7 => ?_)
      · replace h2 := condT hc7 h2
        refine C_sk ?_
        refine E_tn [(0, (.msl 2 lo0p 0 (List.length data0))), (1, (eInt .i64 a1)), (2, (eInt .i64 b2)), (3, (.fn (.func cmp3_f) cmp3_a cmp3_c)), (8, (eInt .i64 i8)), (9, (eInt .i64 j9))] ?_
        refine C_sq ?_
        refine C_bk 3 ?_
        refine A_cl (C_draw (pl := plOf []) ttOk (by kernel_rfl) (n := 18) (by kernel_rfl) (by kernel_rfl) (by kernel_rfl) ?_)
        obtain ⟨c8, h2⟩ := asrtE h2
        refine D_pure 9 (by kernel_rfl) (Ds := [0 ≤ (IntKind.i64.wrap (j9 - (1 : Int))) ∧ (IntKind.i64.wrap (j9 - (1 : Int))) < ((List.length data0 : Nat) : Int)]) (by kernel_rfl) ⟨c8, trivial⟩ ?_
        refine D_loadO 0 lo0p 2 (0 + Int.toNat (IntKind.i64.wrap (j9 - (1 : Int)))) (e_api_Jump (List.getD data0 (Int.toNat (IntKind.i64.wrap (j9 - (1 : Int)))) default)) (e_api_Jump (List.getD data0 (Int.toNat (IntKind.i64.wrap (j9 - (1 : Int)))) default)) (List.map e_api_Jump data0) (by kernel_rfl) (by kernel_rfl) (by kernel_rfl) (by kernel_rfl) hO (by kernel_rfl) (ownGet c8) ?_
        obtain ⟨c9, h2⟩ := asrtE h2
        refine D_pure 13 (by kernel_rfl) (Ds := [0 ≤ j9 ∧ j9 < ((List.length data0 : Nat) : Int)]) (by kernel_rfl) ⟨c9, trivial⟩ ?_
        refine D_loadO 0 lo0p 2 (0 + Int.toNat j9) (e_api_Jump (List.getD data0 (Int.toNat j9) default)) (e_api_Jump (List.getD data0 (Int.toNat j9) default)) (List.map e_api_Jump data0) (by kernel_rfl) (by kernel_rfl) (by kernel_rfl) (by kernel_rfl) hO (by kernel_rfl) (ownGet c9) ?_
        obtain ⟨c10, h2⟩ := asrtE h2
        refine D_pure 15 (by kernel_rfl) (Ds := [0 ≤ j9 ∧ j9 < ((List.length data0 : Nat) : Int)]) (by kernel_rfl) ⟨c10, trivial⟩ ?_
        refine D_storeO 0 lo0p 2 (0 + Int.toNat j9) (e_api_Jump (List.getD data0 (Int.toNat j9) default)) (e_api_Jump (List.getD data0 (Int.toNat (IntKind.i64.wrap (j9 - (1 : Int)))) default)) (List.map e_api_Jump data0) [(lo0p, 2, List.map e_api_Jump (List.set data0 (Int.toNat j9) (List.getD data0 (Int.toNat (IntKind.i64.wrap (j9 - (1 : Int)))) default)))] (by kernel_rfl) (by kernel_rfl) (by kernel_rfl) hO (by kernel_rfl) (ownGet c10) (by simp only [List.set, ownSet]) ?_
        intro H hO
        replace hN : List.length (List.set data0 (Int.toNat j9) (List.getD data0 (Int.toNat (IntKind.i64.wrap (j9 - (1 : Int)))) default)) = N0 := by simpa using hN
        obtain ⟨c11, h2⟩ := asrtE h2
        refine D_pure 17 (by kernel_rfl) (Ds := [0 ≤ (IntKind.i64.wrap (j9 - (1 : Int))) ∧ (IntKind.i64.wrap (j9 - (1 : Int))) < ((List.length data0 : Nat) : Int)]) (by kernel_rfl) ⟨c11, trivial⟩ ?_
        refine D_storeO 0 lo0p 2 (0 + Int.toNat (IntKind.i64.wrap (j9 - (1 : Int)))) (e_api_Jump (List.getD (List.set data0 (Int.toNat j9) (List.getD data0 (Int.toNat (IntKind.i64.wrap (j9 - (1 : Int)))) default)) (Int.toNat (IntKind.i64.wrap (j9 - (1 : Int)))) default)) (e_api_Jump (List.getD data0 (Int.toNat j9) default)) (List.map e_api_Jump (List.set data0 (Int.toNat j9) (List.getD data0 (Int.toNat (IntKind.i64.wrap (j9 - (1 : Int)))) default))) [(lo0p, 2, List.map e_api_Jump (List.set (List.set data0 (Int.toNat j9) (List.getD data0 (Int.toNat (IntKind.i64.wrap (j9 - (1 : Int)))) default)) (Int.toNat (IntKind.i64.wrap (j9 - (1 : Int)))) (List.getD data0 (Int.toNat j9) default)))] (by kernel_rfl) (by kernel_rfl) (by kernel_rfl) hO (by kernel_rfl) (ownGetN c11 (by simp [])) (by simp only [List.set, ownSet]) ?_
        intro H hO
        replace hN : List.length (List.set (List.set data0 (Int.toNat j9) (List.getD data0 (Int.toNat (IntKind.i64.wrap (j9 - (1 : Int)))) default)) (Int.toNat (IntKind.i64.wrap (j9 - (1 : Int)))) (List.getD data0 (Int.toNat j9) default)) = N0 := by simpa using hN
        refine D_end (by kernel_rfl) ?_
        refine E_has (l := [(0, (.msl 2 lo0p 0 (List.length (List.set (List.set data0 (Int.toNat j9) (List.getD data0 (Int.toNat (IntKind.i64.wrap (j9 - (1 : Int)))) default)) (Int.toNat (IntKind.i64.wrap (j9 - (1 : Int)))) (List.getD data0 (Int.toNat j9) default))))), (1, (eInt .i64 a1)), (2, (eInt .i64 b2)), (3, (.fn (.func cmp3_f) cmp3_a cmp3_c)), (8, (eInt .i64 i8)), (9, (eInt .i64 j9))]) ⟨[(0, (.msl 2 lo0p 0 (List.length data0))), (1, (eInt .i64 a1)), (2, (eInt .i64 b2)), (3, (.fn (.func cmp3_f) cmp3_a cmp3_c)), (8, (eInt .i64 i8)), (9, (eInt .i64 j9))], by kernel_rfl, rfl, ⟨SubV.eq (by simp []), SubV.refl _, SubV.refl _, SubV.refl _, SubV.refl _, SubV.refl _, trivial⟩⟩ ?_
        refine E_done (blockA_normal (thenA_normal (?_)))
        refine C_rg ttOk 3 ?_
        refine R_al ?_
        refine E_hk [(0, (.msl 2 lo0p 0 (List.length (List.set (List.set data0 (Int.toNat j9) (List.getD data0 (Int.toNat (IntKind.i64.wrap (j9 - (1 : Int)))) default)) (Int.toNat (IntKind.i64.wrap (j9 - (1 : Int)))) (List.getD data0 (Int.toNat j9) default))))), (1, (eInt .i64 a1)), (2, (eInt .i64 b2)), (3, (.fn (.func cmp3_f) cmp3_a cmp3_c)), (8, (eInt .i64 i8)), (9, (eInt .i64 (IntKind.i64.wrap (j9 - (1 : Int)))))] ?_
        exact E_done (thenA_normal (⟨rfl, (List.set (List.set data0 (Int.toNat j9) (List.getD data0 (Int.toNat (IntKind.i64.wrap (j9 - (1 : Int)))) default)) (Int.toNat (IntKind.i64.wrap (j9 - (1 : Int)))) (List.getD data0 (Int.toNat j9) default), IntKind.i64.wrap (j9 - (1 : Int))), (Option.some.inj h2).symm, .eq (by kernel_rfl), hO, hN⟩))
      replace h2 := condF hc7 h2
      refine C_ex 2 ?_
      refine E_hk [(0, (.msl 2 lo0p 0 (List.length data0))), (1, (eInt .i64 a1)), (2, (eInt .i64 b2)), (3, (.fn (.func cmp3_f) cmp3_a cmp3_c)), (8, (eInt .i64 i8))] ?_
      obtain rfl := Option.some.inj h2
      obtain rfl : _ = rr1 := ho1
      replace h1 : slices_insertionSortCmpFunc_api_Jump_j2 cmp3 data0 a1 b2 i8 = some out1 := h1
      exact E_done (thenA_exit (thenA_exit (blockA_hit (blockA_normal (thenA_normal (⟨rfl, data0, .eq (by kernel_rfl), hO, hN, h1⟩))))))
  replace h1 := condF hc1 h1
  refine C_ex 0 ?_
  refine E_hk [(0, (.msl 2 lo0p 0 (List.length data0)))] ?_
  obtain rfl := Option.some.inj h1
  obtain rfl : _ = rr0 := ho0
  replace h0 : some data0 = some r := h0
  obtain rfl := Option.some.inj h0
  exact E_done (thenA_exit (thenA_exit (blockA_hit (Q_end (x := (.tup [])) (by kernel_rfl) (SubV.refl _) ⟨rfl, hO.ext, hO.at 0 (by kernel_rfl), by simp only [List.length_map]; exact hN.trans hN0⟩))))

theorem w_slices_swapRangeCmpFunc_api_Jump (lo0p : Nat) (data0 : (List api_Jump)) (a1 : Int) (b2 : Int) (n3 : Int) (cmp4_f : Nat) (cmp4_a cmp4_c : List V) (cmp4 : api_Jump → api_Jump → Option Int) (cmp4_h : ∀ a0 a1 r, cmp4 a0 a1 = some r → Fine Try.prog cmp4_f (cmp4_a ++ [(e_api_Jump a0), (e_api_Jump a1)] ++ cmp4_c) (eInt .i64 r)) (r : List api_Jump) (h0 : s_slices_swapRangeCmpFunc_api_Jump data0 a1 b2 n3 cmp4 = some r) : FineI Try.prog 126 lo0p 2 (List.map e_api_Jump data0) (List.map e_api_Jump r) [(.msl 2 lo0p 0 (List.length data0)), (eInt .i64 a1), (eInt .i64 b2), (eInt .i64 n3), (.fn (.func cmp4_f) cmp4_a cmp4_c)] (.tup []) := by
  intro H0 hl0
  refine F_walk Try.func126 (by kernel_rfl) (by kernel_rfl) (by kernel_rfl) ?_
  have hO := Owns.start1 hl0
  clear hl0
  obtain ⟨N0, hN0⟩ : ∃ n, n = List.length data0 := ⟨_, rfl⟩
  have hN : List.length data0 = N0 := hN0.symm
  unfold s_slices_swapRangeCmpFunc_api_Jump at h0
  refine C_sq ?_
  refine C_rg ttOk 1 ?_
  refine R_al ?_
  refine E_tn [(0, (.msl 2 lo0p 0 (List.length data0))), (1, (eInt .i64 a1)), (2, (eInt .i64 b2)), (3, (eInt .i64 n3)), (10, (eInt .i64 (0 : Int)))] ?_
  refine C_bk 0 ?_
  refine C_hk [(0, (.msl 2 lo0p 0 (List.length data0))), (1, (eInt .i64 a1)), (2, (eInt .i64 b2)), (3, (eInt .i64 n3)), (10, (eInt .i64 (0 : Int)))] ?_
  refine C_cut (fun T H => ∃ data0 : List api_Jump, ∃ i10 : Int, Has T [(0, (.msl 2 lo0p 0 (List.length data0))), (1, (eInt .i64 a1)), (2, (eInt .i64 b2)), (3, (eInt .i64 n3)), (10, (eInt .i64 i10))] ∧ Owns ⟨H0, [lo0p], []⟩ H [(lo0p, 2, List.map e_api_Jump data0)] ∧ List.length data0 = N0 ∧ slices_swapRangeCmpFunc_api_Jump_h1 cmp4 data0 a1 b2 n3 i10 = some r) ?_ ⟨data0, (0 : Int), .eq (by kernel_rfl), hO, hN, h0⟩
  clear hO hN h0
  rintro T H ⟨data0, i10, hT, hO, hN, h0⟩
  refine C_has hT ?_
  clear hT
  unfold slices_swapRangeCmpFunc_api_Jump_h1 at h0
  obtain ⟨rr0, hl0, h0⟩ := bindE h0
  refine C_loopS (by kernel_rfl) (fun (s : List api_Jump × Int) T H => Has T [(0, (.msl 2 lo0p 0 (List.length s.1))), (1, (eInt .i64 a1)), (2, (eInt .i64 b2)), (3, (eInt .i64 n3)), (10, (eInt .i64 s.2))] ∧ Owns ⟨H0, [lo0p], []⟩ H [(lo0p, 2, List.map e_api_Jump s.1)] ∧ List.length s.1 = N0) hl0 ⟨.eq (by kernel_rfl), hO, hN⟩ ?_
  clear hO hN
  rintro k0 s out1 T H ⟨hT, hO, hN⟩ h1 ho0
  obtain ⟨data0, i10⟩ := s
  replace h1 : slices_swapRangeCmpFunc_api_Jump_l1 cmp4 a1 b2 n3 data0 i10 = some out1 := h1
  refine C_has (l := [(0, (.msl 2 lo0p 0 (List.length data0))), (1, (eInt .i64 a1)), (2, (eInt .i64 b2)), (3, (eInt .i64 n3)), (10, (eInt .i64 i10))]) hT ?_
  clear hT
  unfold slices_swapRangeCmpFunc_api_Jump_l1 at h1
  refine C_sq ?_
  refine C_sq ?_
  refine C_rg ttOk 3 ?_
  refine R_al ?_
  refine E_tn [(0, (.msl 2 lo0p 0 (List.length data0))), (1, (eInt .i64 a1)), (2, (eInt .i64 b2)), (3, (eInt .i64 n3)), (10, (eInt .i64 i10)), (13, (eBool (decide (i10 < n3))))] ?_
  refine C_cn (decide (i10 < n3)) (fun hc1 => ?_) (fun hc1 => ?_)
  · replace h1 := condT hc1 h1
    refine C_sk ?_
    refine E_tn [(0, (.msl 2 lo0p 0 (List.length data0))), (1, (eInt .i64 a1)), (2, (eInt .i64 b2)), (3, (eInt .i64 n3)), (10, (eInt .i64 i10))] ?_
    refine C_sq ?_
    refine C_bk 1 ?_
    refine A_cl (C_draw (pl := plOf []) ttOk (by kernel_rfl) (n := 24) (by kernel_rfl) (by kernel_rfl) (by kernel_rfl) ?_)
    obtain ⟨c2, h1⟩ := asrtE h1
    refine D_pure 13 (by kernel_rfl) (Ds := [0 ≤ (IntKind.i64.wrap (b2 + i10)) ∧ (IntKind.i64.wrap (b2 + i10)) < ((List.length data0 : Nat) : Int)]) (by kernel_rfl) ⟨c2, trivial⟩ ?_
    refine D_loadO 0 lo0p 2 (0 + Int.toNat (IntKind.i64.wrap (b2 + i10))) (e_api_Jump (List.getD data0 (Int.toNat (IntKind.i64.wrap (b2 + i10))) default)) (e_api_Jump (List.getD data0 (Int.toNat (IntKind.i64.wrap (b2 + i10))) default)) (List.map e_api_Jump data0) (by kernel_rfl) (by kernel_rfl) (by kernel_rfl) (by kernel_rfl) hO (by kernel_rfl) (ownGet c2) ?_
    obtain ⟨c3, h1⟩ := asrtE h1
    refine D_pure 19 (by kernel_rfl) (Ds := [0 ≤ (IntKind.i64.wrap (a1 + i10)) ∧ (IntKind.i64.wrap (a1 + i10)) < ((List.length data0 : Nat) : Int)]) (by kernel_rfl) ⟨c3, trivial⟩ ?_
    refine D_loadO 0 lo0p 2 (0 + Int.toNat (IntKind.i64.wrap (a1 + i10))) (e_api_Jump (List.getD data0 (Int.toNat (IntKind.i64.wrap (a1 + i10))) default)) (e_api_Jump (List.getD data0 (Int.toNat (IntKind.i64.wrap (a1 + i10))) default)) (List.map e_api_Jump data0) (by kernel_rfl) (by kernel_rfl) (by kernel_rfl) (by kernel_rfl) hO (by kernel_rfl) (ownGet c3) ?_
    obtain ⟨c4, h1⟩ := asrtE h1
    refine D_pure 21 (by kernel_rfl) (Ds := [0 ≤ (IntKind.i64.wrap (a1 + i10)) ∧ (IntKind.i64.wrap (a1 + i10)) < ((List.length data0 : Nat) : Int)]) (by kernel_rfl) ⟨c4, trivial⟩ ?_
    refine D_storeO 0 lo0p 2 (0 + Int.toNat (IntKind.i64.wrap (a1 + i10))) (e_api_Jump (List.getD data0 (Int.toNat (IntKind.i64.wrap (a1 + i10))) default)) (e_api_Jump (List.getD data0 (Int.toNat (IntKind.i64.wrap (b2 + i10))) default)) (List.map e_api_Jump data0) [(lo0p, 2, List.map e_api_Jump (List.set data0 (Int.toNat (IntKind.i64.wrap (a1 + i10))) (List.getD data0 (Int.toNat (IntKind.i64.wrap (b2 + i10))) default)))] (by kernel_rfl) (by kernel_rfl) (by kernel_rfl) hO (by kernel_rfl) (ownGet c4) (by simp only [List.set, ownSet]) ?_
    intro H hO
    replace hN : List.length (List.set data0 (Int.toNat (IntKind.i64.wrap (a1 + i10))) (List.getD data0 (Int.toNat (IntKind.i64.wrap (b2 + i10))) default)) = N0 := by simpa using hN
    obtain ⟨c5, h1⟩ := asrtE h1
    refine D_pure 23 (by kernel_rfl) (Ds := [0 ≤ (IntKind.i64.wrap (b2 + i10)) ∧ (IntKind.i64.wrap (b2 + i10)) < ((List.length data0 : Nat) : Int)]) (by kernel_rfl) ⟨c5, trivial⟩ ?_
    refine D_storeO 0 lo0p 2 (0 + Int.toNat (IntKind.i64.wrap (b2 + i10))) (e_api_Jump (List.getD (List.set data0 (Int.toNat (IntKind.i64.wrap (a1 + i10))) (List.getD data0 (Int.toNat (IntKind.i64.wrap (b2 + i10))) default)) (Int.toNat (IntKind.i64.wrap (b2 + i10))) default)) (e_api_Jump (List.getD data0 (Int.toNat (IntKind.i64.wrap (a1 + i10))) default)) (List.map e_api_Jump (List.set data0 (Int.toNat (IntKind.i64.wrap (a1 + i10))) (List.getD data0 (Int.toNat (IntKind.i64.wrap (b2 + i10))) default))) [(lo0p, 2, List.map e_api_Jump (List.set (List.set data0 (Int.toNat (IntKind.i64.wrap (a1 + i10))) (List.getD data0 (Int.toNat (IntKind.i64.wrap (b2 + i10))) default)) (Int.toNat (IntKind.i64.wrap (b2 + i10))) (List.getD data0 (Int.toNat (IntKind.i64.wrap (a1 + i10))) default)))] (by kernel_rfl) (by kernel_rfl) (by kernel_rfl) hO (by kernel_rfl) (ownGetN c5 (by simp [])) (by simp only [List.set, ownSet]) ?_
    intro H hO
    replace hN : List.length (List.set (List.set data0 (Int.toNat (IntKind.i64.wrap (a1 + i10))) (List.getD data0 (Int.toNat (IntKind.i64.wrap (b2 + i10))) default)) (Int.toNat (IntKind.i64.wrap (b2 + i10))) (List.getD data0 (Int.toNat (IntKind.i64.wrap (a1 + i10))) default)) = N0 := by simpa using hN
    refine D_end (by kernel_rfl) ?_
    refine E_has (l := [(0, (.msl 2 lo0p 0 (List.length (List.set (List.set data0 (Int.toNat (IntKind.i64.wrap (a1 + i10))) (List.getD data0 (Int.toNat (IntKind.i64.wrap (b2 + i10))) default)) (Int.toNat (IntKind.i64.wrap (b2 + i10))) (List.getD data0 (Int.toNat (IntKind.i64.wrap (a1 + i10))) default))))), (1, (eInt .i64 a1)), (2, (eInt .i64 b2)), (3, (eInt .i64 n3)), (10, (eInt .i64 i10))]) ⟨[(0, (.msl 2 lo0p 0 (List.length data0))), (1, (eInt .i64 a1)), (2, (eInt .i64 b2)), (3, (eInt .i64 n3)), (10, (eInt .i64 i10))], by kernel_rfl, rfl, ⟨SubV.eq (by simp []), SubV.refl _, SubV.refl _, SubV.refl _, SubV.refl _, trivial⟩⟩ ?_
    refine E_done (blockA_normal (thenA_normal (?_)))
    refine C_rg ttOk 3 ?_
    refine R_al ?_
    refine E_hk [(0, (.msl 2 lo0p 0 (List.length (List.set (List.set data0 (Int.toNat (IntKind.i64.wrap (a1 + i10))) (List.getD data0 (Int.toNat (IntKind.i64.wrap (b2 + i10))) default)) (Int.toNat (IntKind.i64.wrap (b2 + i10))) (List.getD data0 (Int.toNat (IntKind.i64.wrap (a1 + i10))) default))))), (1, (eInt .i64 a1)), (2, (eInt .i64 b2)), (3, (eInt .i64 n3)), (10, (eInt .i64 (IntKind.i64.wrap (i10 + (1 : Int)))))] ?_
    exact E_done (thenA_normal (⟨rfl, (List.set (List.set data0 (Int.toNat (IntKind.i64.wrap (a1 + i10))) (List.getD data0 (Int.toNat (IntKind.i64.wrap (b2 + i10))) default)) (Int.toNat (IntKind.i64.wrap (b2 + i10))) (List.getD data0 (Int.toNat (IntKind.i64.wrap (a1 + i10))) default), IntKind.i64.wrap (i10 + (1 : Int))), (Option.some.inj h1).symm, .eq (by kernel_rfl), hO, hN⟩))
  replace h1 := condF hc1 h1
  refine C_ex 0 ?_
  refine E_hk [(0, (.msl 2 lo0p 0 (List.length data0)))] ?_
  obtain rfl := Option.some.inj h1
  obtain rfl : _ = rr0 := ho0
  replace h0 : some data0 = some r := h0
  obtain rfl := Option.some.inj h0
  exact E_done (thenA_exit (thenA_exit (blockA_hit (Q_end (x := (.tup [])) (by kernel_rfl) (SubV.refl _) ⟨rfl, hO.ext, hO.at 0 (by kernel_rfl), by simp only [List.length_map]; exact hN.trans hN0⟩))))

theorem w_slices_rotateCmpFunc_api_Jump (lo0p : Nat) (data0 : (List api_Jump)) (a1 : Int) (m2 : Int) (b3 : Int) (cmp4_f : Nat) (cmp4_a cmp4_c : List V) (cmp4 : api_Jump → api_Jump → Option Int) (cmp4_h : ∀ a0 a1 r, cmp4 a0 a1 = some r → Fine Try.prog cmp4_f (cmp4_a ++ [(e_api_Jump a0), (e_api_Jump a1)] ++ cmp4_c) (eInt .i64 r)) (r : List api_Jump) (h0 : s_slices_rotateCmpFunc_api_Jump data0 a1 m2 b3 cmp4 = some r) : FineI Try.prog 125 lo0p 2 (List.map e_api_Jump data0) (List.map e_api_Jump r) [(.msl 2 lo0p 0 (List.length data0)), (eInt .i64 a1), (eInt .i64 m2), (eInt .i64 b3), (.fn (.func cmp4_f) cmp4_a cmp4_c)] (.tup []) := by
  intro H0 hl0
  refine F_walk Try.func125 (by kernel_rfl) (by kernel_rfl) (by kernel_rfl) ?_
  have hO := Owns.start1 hl0
  clear hl0
  obtain ⟨N0, hN0⟩ : ∃ n, n = List.length data0 := ⟨_, rfl⟩
  have hN : List.length data0 = N0 := hN0.symm
  unfold s_slices_rotateCmpFunc_api_Jump at h0
  refine C_sq ?_
  refine C_rg ttOk 4 ?_
  refine R_al ?_
  refine E_tn [(0, (.msl 2 lo0p 0 (List.length data0))), (2, (eInt .i64 m2)), (3, (eInt .i64 b3)), (4, (.fn (.func cmp4_f) cmp4_a cmp4_c)), (10, (eInt .i64 (IntKind.i64.wrap (m2 - a1))))] ?_
  refine C_sq ?_
  refine C_rg ttOk 4 ?_
  refine R_al ?_
  refine E_tn [(0, (.msl 2 lo0p 0 (List.length data0))), (2, (eInt .i64 m2)), (4, (.fn (.func cmp4_f) cmp4_a cmp4_c)), (10, (eInt .i64 (IntKind.i64.wrap (m2 - a1)))), (11, (eInt .i64 (IntKind.i64.wrap (b3 - m2))))] ?_
  refine C_seqJ (by kernel_rfl) (fun T H => ∃ data0 : List api_Jump, ∃ i10 : Int, Has T [(0, (.msl 2 lo0p 0 (List.length data0))), (2, (eInt .i64 m2)), (4, (.fn (.func cmp4_f) cmp4_a cmp4_c)), (10, (eInt .i64 i10))] ∧ Owns ⟨H0, [lo0p], []⟩ H [(lo0p, 2, List.map e_api_Jump data0)] ∧ List.length data0 = N0 ∧ slices_rotateCmpFunc_api_Jump_j1 cmp4 data0 m2 i10 = some r) ?_ ?_
  · clear hO hN h0
    rintro T H ⟨data0, i10, hT, hO, hN, h0⟩
    refine C_has hT ?_
    clear hT
    unfold slices_rotateCmpFunc_api_Jump_j1 at h0
    refine C_rg ttOk 8 ?_
    refine R_pu 7 ?_
    obtain ⟨x1, hx2, h0⟩ := bindE h0
    refine R_callI (L' := [(lo0p, 2, List.map e_api_Jump x1)]) 0 lo0p 2 (List.map e_api_Jump data0) (List.map e_api_Jump x1) 126 [(.msl 2 lo0p 0 (List.length data0)), (eInt .i64 (IntKind.i64.wrap (m2 - i10))), (eInt .i64 m2), (eInt .i64 i10), (.fn (.func cmp4_f) cmp4_a cmp4_c)] (.tup []) (by kernel_rfl) (by kernel_rfl) (w_slices_swapRangeCmpFunc_api_Jump lo0p data0 (IntKind.i64.wrap (m2 - i10)) m2 i10 cmp4_f cmp4_a cmp4_c cmp4 cmp4_h _ hx2) hO (by kernel_rfl) (by kernel_rfl) ?_
    intro H hO hl3
    simp only [List.length_map] at hl3
    replace hN := hl3.trans hN
    refine R_en ?_
    refine E_has (l := [(0, (.msl 2 lo0p 0 (List.length x1)))]) ⟨[(0, (.msl 2 lo0p 0 (List.length data0)))], by kernel_rfl, rfl, ⟨SubV.eq (by simp [hl3]), trivial⟩⟩ ?_
    obtain rfl := Option.some.inj h0
    exact E_done (Q_end (x := (.tup [])) (by kernel_rfl) (SubV.refl _) ⟨rfl, hO.ext, hO.at 0 (by kernel_rfl), by simp only [List.length_map]; exact hN.trans hN0⟩)
  refine C_bk 0 ?_
  refine C_hk [(0, (.msl 2 lo0p 0 (List.length data0))), (2, (eInt .i64 m2)), (4, (.fn (.func cmp4_f) cmp4_a cmp4_c)), (10, (eInt .i64 (IntKind.i64.wrap (m2 - a1)))), (11, (eInt .i64 (IntKind.i64.wrap (b3 - m2))))] ?_
  refine C_cut (fun T H => ∃ data0 : List api_Jump, ∃ i10 : Int, ∃ j11 : Int, Has T [(0, (.msl 2 lo0p 0 (List.length data0))), (2, (eInt .i64 m2)), (4, (.fn (.func cmp4_f) cmp4_a cmp4_c)), (10, (eInt .i64 i10)), (11, (eInt .i64 j11))] ∧ Owns ⟨H0, [lo0p], []⟩ H [(lo0p, 2, List.map e_api_Jump data0)] ∧ List.length data0 = N0 ∧ slices_rotateCmpFunc_api_Jump_h2 cmp4 data0 m2 i10 j11 = some r) ?_ ⟨data0, IntKind.i64.wrap (m2 - a1), IntKind.i64.wrap (b3 - m2), .eq (by kernel_rfl), hO, hN, h0⟩
  clear hO hN h0
  rintro T H ⟨data0, i10, j11, hT, hO, hN, h0⟩
  refine C_has hT ?_
  clear hT
  unfold slices_rotateCmpFunc_api_Jump_h2 at h0
  obtain ⟨rr0, hl0, h0⟩ := bindE h0
  refine C_loopS (by kernel_rfl) (fun (s : List api_Jump × Int × Int) T H => Has T [(0, (.msl 2 lo0p 0 (List.length s.1))), (2, (eInt .i64 m2)), (4, (.fn (.func cmp4_f) cmp4_a cmp4_c)), (10, (eInt .i64 s.2.1)), (11, (eInt .i64 s.2.2))] ∧ Owns ⟨H0, [lo0p], []⟩ H [(lo0p, 2, List.map e_api_Jump s.1)] ∧ List.length s.1 = N0) hl0 ⟨.eq (by kernel_rfl), hO, hN⟩ ?_
  clear hO hN
  rintro k0 s out1 T H ⟨hT, hO, hN⟩ h1 ho0
  obtain ⟨data0, i10, j11⟩ := s
  replace h1 : slices_rotateCmpFunc_api_Jump_l2 cmp4 m2 data0 i10 j11 = some out1 := h1
  refine C_has (l := [(0, (.msl 2 lo0p 0 (List.length data0))), (2, (eInt .i64 m2)), (4, (.fn (.func cmp4_f) cmp4_a cmp4_c)), (10, (eInt .i64 i10)), (11, (eInt .i64 j11))]) hT ?_
  clear hT
  unfold slices_rotateCmpFunc_api_Jump_l2 at h1
  refine C_sq ?_
  refine C_sq ?_
  refine C_rg ttOk 3 ?_
  refine R_al ?_
  refine E_tn [(0, (.msl 2 lo0p 0 (List.length data0))), (2, (eInt .i64 m2)), (4, (.fn (.func cmp4_f) cmp4_a cmp4_c)), (10, (eInt .i64 i10)), (11, (eInt .i64 j11)), (20, (eBool (!decide (i10 = j11))))] ?_
  refine C_cn (!decide (i10 = j11)) (fun hc4 => ?_) (fun hc4 => ?_)
  · replace h1 := condT hc4 h1
    refine C_sk ?_
    refine E_tn [(0, (.msl 2 lo0p 0 (List.length data0))), (2, (eInt .i64 m2)), (4, (.fn (.func cmp4_f) cmp4_a cmp4_c)), (10, (eInt .i64 i10)), (11, (eInt .i64 j11))] ?_
    refine C_bk 1 ?_
    refine C_sq ?_
    refine C_rg ttOk 3 ?_
    refine R_al ?_
    refine E_tn [(0, (.msl 2 lo0p 0 (List.length data0))), (2, (eInt .i64 m2)), (4, (.fn (.func cmp4_f) cmp4_a cmp4_c)), (10, (eInt .i64 i10)), (11, (eInt .i64 j11)), (23, (eBool (decide (j11 < i10))))] ?_
    refine C_cn (decide (j11 < i10)) (fun hc5 => ?_) (fun hc5 => ?_)
    · replace h1 := condT hc5 h1
      refine C_sq ?_
      refine C_rg ttOk 8 ?_
      refine R_pu 7 ?_
      obtain ⟨x6, hx7, h1⟩ := bindE h1
      refine R_callI (L' := [(lo0p, 2, List.map e_api_Jump x6)]) 0 lo0p 2 (List.map e_api_Jump data0) (List.map e_api_Jump x6) 126 [(.msl 2 lo0p 0 (List.length data0)), (eInt .i64 (IntKind.i64.wrap (m2 - i10))), (eInt .i64 m2), (eInt .i64 j11), (.fn (.func cmp4_f) cmp4_a cmp4_c)] (.tup []) (by kernel_rfl) (by kernel_rfl) (w_slices_swapRangeCmpFunc_api_Jump lo0p data0 (IntKind.i64.wrap (m2 - i10)) m2 j11 cmp4_f cmp4_a cmp4_c cmp4 cmp4_h _ hx7) hO (by kernel_rfl) (by kernel_rfl) ?_
      intro H hO hl8
      simp only [List.length_map] at hl8
      replace hN := hl8.trans hN
      refine R_en ?_
      refine E_has (l := [(0, (.msl 2 lo0p 0 (List.length x6))), (2, (eInt .i64 m2)), (4, (.fn (.func cmp4_f) cmp4_a cmp4_c)), (10, (eInt .i64 i10)), (11, (eInt .i64 j11))]) ⟨[(0, (.msl 2 lo0p 0 (List.length data0))), (2, (eInt .i64 m2)), (4, (.fn (.func cmp4_f) cmp4_a cmp4_c)), (10, (eInt .i64 i10)), (11, (eInt .i64 j11))], by kernel_rfl, rfl, ⟨SubV.eq (by simp [hl8]), SubV.refl _, SubV.refl _, SubV.refl _, SubV.refl _, trivial⟩⟩ ?_
      refine E_done (thenA_normal (?_))
      refine C_rg ttOk 4 ?_
      refine R_al ?_
      refine E_hk [(0, (.msl 2 lo0p 0 (List.length x6))), (2, (eInt .i64 m2)), (4, (.fn (.func cmp4_f) cmp4_a cmp4_c)), (10, (eInt .i64 (IntKind.i64.wrap (i10 - j11)))), (11, (eInt .i64 j11))] ?_
      exact E_done (blockA_normal (thenA_normal (⟨rfl, (x6, IntKind.i64.wrap (i10 - j11), j11), (Option.some.inj h1).symm, .eq (by kernel_rfl), hO, hN⟩)))
    replace h1 := condF hc5 h1
    refine C_sq ?_
    refine C_rg ttOk 12 ?_
    refine R_pu 11 ?_
    obtain ⟨x9, hx10, h1⟩ := bindE h1
    refine R_callI (L' := [(lo0p, 2, List.map e_api_Jump x9)]) 0 lo0p 2 (List.map e_api_Jump data0) (List.map e_api_Jump x9) 126 [(.msl 2 lo0p 0 (List.length data0)), (eInt .i64 (IntKind.i64.wrap (m2 - i10))), (eInt .i64 (IntKind.i64.wrap ((IntKind.i64.wrap (m2 + j11)) - i10))), (eInt .i64 i10), (.fn (.func cmp4_f) cmp4_a cmp4_c)] (.tup []) (by kernel_rfl) (by kernel_rfl) (w_slices_swapRangeCmpFunc_api_Jump lo0p data0 (IntKind.i64.wrap (m2 - i10)) (IntKind.i64.wrap ((IntKind.i64.wrap (m2 + j11)) - i10)) i10 cmp4_f cmp4_a cmp4_c cmp4 cmp4_h _ hx10) hO (by kernel_rfl) (by kernel_rfl) ?_
    intro H hO hl11
    simp only [List.length_map] at hl11
    replace hN := hl11.trans hN
    refine R_en ?_
    refine E_has (l := [(0, (.msl 2 lo0p 0 (List.length x9))), (2, (eInt .i64 m2)), (4, (.fn (.func cmp4_f) cmp4_a cmp4_c)), (10, (eInt .i64 i10)), (11, (eInt .i64 j11))]) ⟨[(0, (.msl 2 lo0p 0 (List.length data0))), (2, (eInt .i64 m2)), (4, (.fn (.func cmp4_f) cmp4_a cmp4_c)), (10, (eInt .i64 i10)), (11, (eInt .i64 j11))], by kernel_rfl, rfl, ⟨SubV.eq (by simp [hl11]), SubV.refl _, SubV.refl _, SubV.refl _, SubV.refl _, trivial⟩⟩ ?_
    refine E_done (thenA_normal (?_))
    refine C_rg ttOk 4 ?_
    refine R_al ?_
    refine E_hk [(0, (.msl 2 lo0p 0 (List.length x9))), (2, (eInt .i64 m2)), (4, (.fn (.func cmp4_f) cmp4_a cmp4_c)), (10, (eInt .i64 i10)), (11, (eInt .i64 (IntKind.i64.wrap (j11 - i10))))] ?_
    exact E_done (blockA_normal (thenA_normal (⟨rfl, (x9, i10, IntKind.i64.wrap (j11 - i10)), (Option.some.inj h1).symm, .eq (by kernel_rfl), hO, hN⟩)))
  replace h1 := condF hc4 h1
  refine C_ex 0 ?_
  refine E_hk [(0, (.msl 2 lo0p 0 (List.length data0))), (2, (eInt .i64 m2)), (4, (.fn (.func cmp4_f) cmp4_a cmp4_c)), (10, (eInt .i64 i10))] ?_
  obtain rfl := Option.some.inj h1
  obtain rfl : _ = rr0 := ho0
  replace h0 : slices_rotateCmpFunc_api_Jump_j1 cmp4 data0 m2 i10 = some r := h0
  exact E_done (thenA_exit (thenA_exit (blockA_hit (thenA_normal (⟨rfl, data0, i10, .eq (by kernel_rfl), hO, hN, h0⟩)))))

theorem w_slices_symMergeCmpFunc_api_Jump_step (cmp4_f : Nat) (cmp4_a cmp4_c : List V) (cmp4 : api_Jump → api_Jump → Option Int) (cmp4_h : ∀ a0 a1 r, cmp4 a0 a1 = some r → Fine Try.prog cmp4_f (cmp4_a ++ [(e_api_Jump a0), (e_api_Jump a1)] ++ cmp4_c) (eInt .i64 r)) (rec : (List api_Jump) → Int → Int → Int → Option (List api_Jump)) (ih : ∀ (lo0p : Nat) (data0 : (List api_Jump)) (a1 : Int) (m2 : Int) (b3 : Int) (r : List api_Jump), rec data0 a1 m2 b3 = some r → FineI Try.prog 122 lo0p 2 (List.map e_api_Jump data0) (List.map e_api_Jump r) [(.msl 2 lo0p 0 (List.length data0)), (eInt .i64 a1), (eInt .i64 m2), (eInt .i64 b3), (.fn (.func cmp4_f) cmp4_a cmp4_c)] (.tup [])) (lo0p : Nat) (data0 : (List api_Jump)) (a1 : Int) (m2 : Int) (b3 : Int) (r : List api_Jump) (h0 : slices_symMergeCmpFunc_api_Jump_step cmp4 rec data0 a1 m2 b3 = some r) : FineI Try.prog 122 lo0p 2 (List.map e_api_Jump data0) (List.map e_api_Jump r) [(.msl 2 lo0p 0 (List.length data0)), (eInt .i64 a1), (eInt .i64 m2), (eInt .i64 b3), (.fn (.func cmp4_f) cmp4_a cmp4_c)] (.tup []) := by
  intro H0 hl0
  refine F_walk Try.func122 (by kernel_rfl) (by kernel_rfl) (by kernel_rfl) ?_
  have hO := Owns.start1 hl0
  clear hl0
  obtain ⟨N0, hN0⟩ : ∃ n, n = List.length data0 := ⟨_, rfl⟩
  have hN : List.length data0 = N0 := hN0.symm
  unfold slices_symMergeCmpFunc_api_Jump_step at h0
  refine C_seqJ (by kernel_rfl) (fun T H => ∃ data0 : List api_Jump, Has T [(0, (.msl 2 lo0p 0 (List.length data0))), (1, (eInt .i64 a1)), (2, (eInt .i64 m2)), (3, (eInt .i64 b3)), (4, (.fn (.func cmp4_f) cmp4_a cmp4_c))] ∧ Owns ⟨H0, [lo0p], []⟩ H [(lo0p, 2, List.map e_api_Jump data0)] ∧ List.length data0 = N0 ∧ slices_symMergeCmpFunc_api_Jump_j1 cmp4 rec data0 a1 m2 b3 = some r) ?_ ?_
  · clear hO hN h0
    rintro T H ⟨data0, hT, hO, hN, h0⟩
    refine C_has hT ?_
    clear hT
    unfold slices_symMergeCmpFunc_api_Jump_j1 at h0
    refine C_seqJ (by kernel_rfl) (fun T H => ∃ data0 : List api_Jump, Has T [(0, (.msl 2 lo0p 0 (List.length data0))), (1, (eInt .i64 a1)), (2, (eInt .i64 m2)), (3, (eInt .i64 b3)), (4, (.fn (.func cmp4_f) cmp4_a cmp4_c))] ∧ Owns ⟨H0, [lo0p], []⟩ H [(lo0p, 2, List.map e_api_Jump data0)] ∧ List.length data0 = N0 ∧ slices_symMergeCmpFunc_api_Jump_j2 cmp4 rec data0 a1 m2 b3 = some r) ?_ ?_
    · clear hO hN h0
      rintro T H ⟨data0, hT, hO, hN, h0⟩
      refine C_has hT ?_
      clear hT
      unfold slices_symMergeCmpFunc_api_Jump_j2 at h0
      refine C_sq ?_
      refine C_rg ttOk 7 ?_
      obtain ⟨c1, h0⟩ := asrtE h0
      refine R_all (Ds := [0 ≤ (1 : Int)]) (by kernel_rfl) ⟨c1, trivial⟩ ?_
      refine E_tn [(0, (.msl 2 lo0p 0 (List.length data0))), (1, (eInt .i64 a1)), (2, (eInt .i64 m2)), (3, (eInt .i64 b3)), (4, (.fn (.func cmp4_f) cmp4_a cmp4_c)), (18, (eInt .i64 (IntKind.i64.wrap (Int.fdiv (IntKind.u64.wrap (IntKind.i64.wrap (a1 + b3))) (2 ^ (min (Int.toNat (1 : Int)) 64))))))] ?_
      refine C_sq ?_
      refine C_rg ttOk 4 ?_
      refine R_al ?_
      refine E_tn [(0, (.msl 2 lo0p 0 (List.length data0))), (1, (eInt .i64 a1)), (2, (eInt .i64 m2)), (3, (eInt .i64 b3)), (4, (.fn (.func cmp4_f) cmp4_a cmp4_c)), (18, (eInt .i64 (IntKind.i64.wrap (Int.fdiv (IntKind.u64.wrap (IntKind.i64.wrap (a1 + b3))) (2 ^ (min (Int.toNat (1 : Int)) 64)))))), (19, (eInt .i64 (IntKind.i64.wrap ((IntKind.i64.wrap (Int.fdiv (IntKind.u64.wrap (IntKind.i64.wrap (a1 + b3))) (2 ^ (min (Int.toNat (1 : Int)) 64)))) + m2))))] ?_
      refine C_sq ?_
      refine C_rg ttOk 2 ?_
      refine R_al ?_
      refine E_tn [(0, (.msl 2 lo0p 0 (List.length data0))), (1, (eInt .i64 a1)), (2, (eInt .i64 m2)), (3, (eInt .i64 b3)), (4, (.fn (.func cmp4_f) cmp4_a cmp4_c)), (18, (eInt .i64 (IntKind.i64.wrap (Int.fdiv (IntKind.u64.wrap (IntKind.i64.wrap (a1 + b3))) (2 ^ (min (Int.toNat (1 : Int)) 64)))))), (19, (eInt .i64 (IntKind.i64.wrap ((IntKind.i64.wrap (Int.fdiv (IntKind.u64.wrap (IntKind.i64.wrap (a1 + b3))) (2 ^ (min (Int.toNat (1 : Int)) 64)))) + m2))))] ?_
      refine C_seqJ (by kernel_rfl) (fun T H => ∃ data0 : List api_Jump, ∃ mid18 : Int, ∃ n19 : Int, ∃ start20 : Int, ∃ r21 : Int, Has T [(0, (.msl 2 lo0p 0 (List.length data0))), (1, (eInt .i64 a1)), (2, (eInt .i64 m2)), (3, (eInt .i64 b3)), (4, (.fn (.func cmp4_f) cmp4_a cmp4_c)), (18, (eInt .i64 mid18)), (19, (eInt .i64 n19)), (20, (eInt .i64 start20)), (21, (eInt .i64 r21))] ∧ Owns ⟨H0, [lo0p], []⟩ H [(lo0p, 2, List.map e_api_Jump data0)] ∧ List.length data0 = N0 ∧ slices_symMergeCmpFunc_api_Jump_j3 cmp4 rec data0 a1 m2 b3 mid18 n19 start20 r21 = some r) ?_ ?_
      · clear hO hN h0
        rintro T H ⟨data0, mid18, n19, start20, r21, hT, hO, hN, h0⟩
        refine C_has hT ?_
        clear hT
        unfold slices_symMergeCmpFunc_api_Jump_j3 at h0
        refine C_sq ?_
        refine C_rg ttOk 3 ?_
        refine R_al ?_
        refine E_tn [(0, (.msl 2 lo0p 0 (List.length data0))), (1, (eInt .i64 a1)), (2, (eInt .i64 m2)), (3, (eInt .i64 b3)), (4, (.fn (.func cmp4_f) cmp4_a cmp4_c)), (18, (eInt .i64 mid18)), (19, (eInt .i64 n19)), (20, (eInt .i64 start20)), (21, (eInt .i64 r21)), (22, (eInt .i64 (IntKind.i64.wrap (n19 - (1 : Int)))))] ?_
        refine C_seqJ (by kernel_rfl) (fun T H => ∃ data0 : List api_Jump, ∃ start20 : Int, Has T [(0, (.msl 2 lo0p 0 (List.length data0))), (1, (eInt .i64 a1)), (2, (eInt .i64 m2)), (3, (eInt .i64 b3)), (4, (.fn (.func cmp4_f) cmp4_a cmp4_c)), (18, (eInt .i64 mid18)), (19, (eInt .i64 n19)), (20, (eInt .i64 start20))] ∧ Owns ⟨H0, [lo0p], []⟩ H [(lo0p, 2, List.map e_api_Jump data0)] ∧ List.length data0 = N0 ∧ slices_symMergeCmpFunc_api_Jump_j4 cmp4 rec data0 a1 m2 b3 mid18 n19 start20 = some r) ?_ ?_
        · clear hO hN h0
          rintro T H ⟨data0, start20, hT, hO, hN, h0⟩
          refine C_has hT ?_
          clear hT
          unfold slices_symMergeCmpFunc_api_Jump_j4 at h0
          refine C_sq ?_
          refine C_rg ttOk 4 ?_
          refine R_al ?_
          refine E_tn [(0, (.msl 2 lo0p 0 (List.length data0))), (1, (eInt .i64 a1)), (2, (eInt .i64 m2)), (3, (eInt .i64 b3)), (4, (.fn (.func cmp4_f) cmp4_a cmp4_c)), (18, (eInt .i64 mid18)), (20, (eInt .i64 start20)), (24, (eInt .i64 (IntKind.i64.wrap (n19 - start20))))] ?_
          refine C_seqJ (by kernel_rfl) (fun T H => ∃ data0 : List api_Jump, ∃ end24 : Int, Has T [(0, (.msl 2 lo0p 0 (List.length data0))), (1, (eInt .i64 a1)), (3, (eInt .i64 b3)), (4, (.fn (.func cmp4_f) cmp4_a cmp4_c)), (18, (eInt .i64 mid18)), (20, (eInt .i64 start20)), (24, (eInt .i64 end24))] ∧ Owns ⟨H0, [lo0p], []⟩ H [(lo0p, 2, List.map e_api_Jump data0)] ∧ List.length data0 = N0 ∧ slices_symMergeCmpFunc_api_Jump_j5 cmp4 rec data0 a1 b3 mid18 start20 end24 = some r) ?_ ?_
          · clear hO hN h0
            rintro T H ⟨data0, end24, hT, hO, hN, h0⟩
            refine C_has hT ?_
            clear hT
            unfold slices_symMergeCmpFunc_api_Jump_j5 at h0
            refine C_seqJ (by kernel_rfl) (fun T H => ∃ data0 : List api_Jump, Has T [(0, (.msl 2 lo0p 0 (List.length data0))), (3, (eInt .i64 b3)), (4, (.fn (.func cmp4_f) cmp4_a cmp4_c)), (18, (eInt .i64 mid18)), (24, (eInt .i64 end24))] ∧ Owns ⟨H0, [lo0p], []⟩ H [(lo0p, 2, List.map e_api_Jump data0)] ∧ List.length data0 = N0 ∧ slices_symMergeCmpFunc_api_Jump_j6 cmp4 rec data0 b3 mid18 end24 = some r) ?_ ?_
            · clear hO hN h0
              rintro T H ⟨data0, hT, hO, hN, h0⟩
              refine C_has hT ?_
              clear hT
              unfold slices_symMergeCmpFunc_api_Jump_j6 at h0
              refine C_sq ?_
              refine C_rg ttOk 8 ?_
              refine R_al ?_
              refine E_tn [(0, (.msl 2 lo0p 0 (List.length data0))), (3, (eInt .i64 b3)), (4, (.fn (.func cmp4_f) cmp4_a cmp4_c)), (18, (eInt .i64 mid18)), (24, (eInt .i64 end24)), (213, (eBool ((decide (mid18 < end24)) && (decide (end24 < b3)))))] ?_
              refine C_cn ((decide (mid18 < end24)) && (decide (end24 < b3))) (fun hc2 => ?_) (fun hc2 => ?_)
              · replace h0 := condT hc2 h0
                refine C_rg ttOk 6 ?_
                refine R_pu 5 ?_
                obtain ⟨x3, hx4, h0⟩ := bindE h0
                refine R_callI (L' := [(lo0p, 2, List.map e_api_Jump x3)]) 0 lo0p 2 (List.map e_api_Jump data0) (List.map e_api_Jump x3) 122 [(.msl 2 lo0p 0 (List.length data0)), (eInt .i64 mid18), (eInt .i64 end24), (eInt .i64 b3), (.fn (.func cmp4_f) cmp4_a cmp4_c)] (.tup []) (by kernel_rfl) (by kernel_rfl) (ih lo0p data0 mid18 end24 b3 _ hx4) hO (by kernel_rfl) (by kernel_rfl) ?_
                intro H hO hl5
                simp only [List.length_map] at hl5
                replace hN := hl5.trans hN
                refine R_en ?_
                refine E_has (l := [(0, (.msl 2 lo0p 0 (List.length x3)))]) ⟨[(0, (.msl 2 lo0p 0 (List.length data0)))], by kernel_rfl, rfl, ⟨SubV.eq (by simp [hl5]), trivial⟩⟩ ?_
                obtain rfl := Option.some.inj h0
                exact E_done (Q_end (x := (.tup [])) (by kernel_rfl) (SubV.refl _) ⟨rfl, hO.ext, hO.at 0 (by kernel_rfl), by simp only [List.length_map]; exact hN.trans hN0⟩)
              replace h0 := condF hc2 h0
              refine C_sk ?_
              refine E_hk [(0, (.msl 2 lo0p 0 (List.length data0)))] ?_
              obtain rfl := Option.some.inj h0
              exact E_done (Q_end (x := (.tup [])) (by kernel_rfl) (SubV.refl _) ⟨rfl, hO.ext, hO.at 0 (by kernel_rfl), by simp only [List.length_map]; exact hN.trans hN0⟩)
            refine C_sq ?_
            refine C_rg ttOk 8 ?_
            refine R_al ?_
            refine E_tn [(0, (.msl 2 lo0p 0 (List.length data0))), (1, (eInt .i64 a1)), (3, (eInt .i64 b3)), (4, (.fn (.func cmp4_f) cmp4_a cmp4_c)), (18, (eInt .i64 mid18)), (20, (eInt .i64 start20)), (24, (eInt .i64 end24)), (199, (eBool ((decide (a1 < start20)) && (decide (start20 < mid18)))))] ?_
            refine C_cn ((decide (a1 < start20)) && (decide (start20 < mid18))) (fun hc6 => ?_) (fun hc6 => ?_)
            · replace h0 := condT hc6 h0
              refine C_rg ttOk 6 ?_
              refine R_pu 5 ?_
              obtain ⟨x7, hx8, h0⟩ := bindE h0
              refine R_callI (L' := [(lo0p, 2, List.map e_api_Jump x7)]) 0 lo0p 2 (List.map e_api_Jump data0) (List.map e_api_Jump x7) 122 [(.msl 2 lo0p 0 (List.length data0)), (eInt .i64 a1), (eInt .i64 start20), (eInt .i64 mid18), (.fn (.func cmp4_f) cmp4_a cmp4_c)] (.tup []) (by kernel_rfl) (by kernel_rfl) (ih lo0p data0 a1 start20 mid18 _ hx8) hO (by kernel_rfl) (by kernel_rfl) ?_
              intro H hO hl9
              simp only [List.length_map] at hl9
              replace hN := hl9.trans hN
              refine R_en ?_
              refine E_has (l := [(0, (.msl 2 lo0p 0 (List.length x7))), (3, (eInt .i64 b3)), (4, (.fn (.func cmp4_f) cmp4_a cmp4_c)), (18, (eInt .i64 mid18)), (24, (eInt .i64 end24))]) ⟨[(0, (.msl 2 lo0p 0 (List.length data0))), (3, (eInt .i64 b3)), (4, (.fn (.func cmp4_f) cmp4_a cmp4_c)), (18, (eInt .i64 mid18)), (24, (eInt .i64 end24))], by kernel_rfl, rfl, ⟨SubV.eq (by simp [hl9]), SubV.refl _, SubV.refl _, SubV.refl _, SubV.refl _, trivial⟩⟩ ?_
              exact E_done (thenA_normal (⟨rfl, x7, .eq (by kernel_rfl), hO, hN, h0⟩))
            replace h0 := condF hc6 h0
            refine C_sk ?_
            refine E_hk [(0, (.msl 2 lo0p 0 (List.length data0))), (3, (eInt .i64 b3)), (4, (.fn (.func cmp4_f) cmp4_a cmp4_c)), (18, (eInt .i64 mid18)), (24, (eInt .i64 end24))] ?_
            exact E_done (thenA_normal (⟨rfl, data0, .eq (by kernel_rfl), hO, hN, h0⟩))
          refine C_sq ?_
          refine C_rg ttOk 8 ?_
          refine R_al ?_
          refine E_tn [(0, (.msl 2 lo0p 0 (List.length data0))), (1, (eInt .i64 a1)), (2, (eInt .i64 m2)), (3, (eInt .i64 b3)), (4, (.fn (.func cmp4_f) cmp4_a cmp4_c)), (18, (eInt .i64 mid18)), (20, (eInt .i64 start20)), (24, (eInt .i64 (IntKind.i64.wrap (n19 - start20)))), (185, (eBool ((decide (start20 < m2)) && (decide (m2 < (IntKind.i64.wrap (n19 - start20)))))))] ?_
          refine C_cn ((decide (start20 < m2)) && (decide (m2 < (IntKind.i64.wrap (n19 - start20))))) (fun hc10 => ?_) (fun hc10 => ?_)
          · replace h0 := condT hc10 h0
            refine C_rg ttOk 6 ?_
            refine R_pu 5 ?_
            obtain ⟨x11, hx12, h0⟩ := bindE h0
            refine R_callI (L' := [(lo0p, 2, List.map e_api_Jump x11)]) 0 lo0p 2 (List.map e_api_Jump data0) (List.map e_api_Jump x11) 125 [(.msl 2 lo0p 0 (List.length data0)), (eInt .i64 start20), (eInt .i64 m2), (eInt .i64 (IntKind.i64.wrap (n19 - start20))), (.fn (.func cmp4_f) cmp4_a cmp4_c)] (.tup []) (by kernel_rfl) (by kernel_rfl) (w_slices_rotateCmpFunc_api_Jump lo0p data0 start20 m2 (IntKind.i64.wrap (n19 - start20)) cmp4_f cmp4_a cmp4_c cmp4 cmp4_h _ hx12) hO (by kernel_rfl) (by kernel_rfl) ?_
            intro H hO hl13
            simp only [List.length_map] at hl13
            replace hN := hl13.trans hN
            refine R_en ?_
            refine E_has (l := [(0, (.msl 2 lo0p 0 (List.length x11))), (1, (eInt .i64 a1)), (3, (eInt .i64 b3)), (4, (.fn (.func cmp4_f) cmp4_a cmp4_c)), (18, (eInt .i64 mid18)), (20, (eInt .i64 start20)), (24, (eInt .i64 (IntKind.i64.wrap (n19 - start20))))]) ⟨[(0, (.msl 2 lo0p 0 (List.length data0))), (1, (eInt .i64 a1)), (3, (eInt .i64 b3)), (4, (.fn (.func cmp4_f) cmp4_a cmp4_c)), (18, (eInt .i64 mid18)), (20, (eInt .i64 start20)), (24, (eInt .i64 (IntKind.i64.wrap (n19 - start20))))], by kernel_rfl, rfl, ⟨SubV.eq (by simp [hl13]), SubV.refl _, SubV.refl _, SubV.refl _, SubV.refl _, SubV.refl _, SubV.refl _, trivial⟩⟩ ?_
            exact E_done (thenA_normal (⟨rfl, x11, IntKind.i64.wrap (n19 - start20), .eq (by kernel_rfl), hO, hN, h0⟩))
          replace h0 := condF hc10 h0
          refine C_sk ?_
          refine E_hk [(0, (.msl 2 lo0p 0 (List.length data0))), (1, (eInt .i64 a1)), (3, (eInt .i64 b3)), (4, (.fn (.func cmp4_f) cmp4_a cmp4_c)), (18, (eInt .i64 mid18)), (20, (eInt .i64 start20)), (24, (eInt .i64 (IntKind.i64.wrap (n19 - start20))))] ?_
          exact E_done (thenA_normal (⟨rfl, data0, IntKind.i64.wrap (n19 - start20), .eq (by kernel_rfl), hO, hN, h0⟩))
        refine C_bk 8 ?_
        refine C_hk [(0, (.msl 2 lo0p 0 (List.length data0))), (1, (eInt .i64 a1)), (2, (eInt .i64 m2)), (3, (eInt .i64 b3)), (4, (.fn (.func cmp4_f) cmp4_a cmp4_c)), (18, (eInt .i64 mid18)), (19, (eInt .i64 n19)), (20, (eInt .i64 start20)), (21, (eInt .i64 r21)), (22, (eInt .i64 (IntKind.i64.wrap (n19 - (1 : Int)))))] ?_
        refine C_cut (fun T H => ∃ data0 : List api_Jump, ∃ start20 : Int, ∃ r21 : Int, ∃ p22 : Int, Has T [(0, (.msl 2 lo0p 0 (List.length data0))), (1, (eInt .i64 a1)), (2, (eInt .i64 m2)), (3, (eInt .i64 b3)), (4, (.fn (.func cmp4_f) cmp4_a cmp4_c)), (18, (eInt .i64 mid18)), (19, (eInt .i64 n19)), (20, (eInt .i64 start20)), (21, (eInt .i64 r21)), (22, (eInt .i64 p22))] ∧ Owns ⟨H0, [lo0p], []⟩ H [(lo0p, 2, List.map e_api_Jump data0)] ∧ List.length data0 = N0 ∧ slices_symMergeCmpFunc_api_Jump_h7 cmp4 rec data0 a1 m2 b3 mid18 n19 start20 r21 p22 = some r) ?_ ⟨data0, start20, r21, IntKind.i64.wrap (n19 - (1 : Int)), .eq (by kernel_rfl), hO, hN, h0⟩
        clear hO hN h0
        rintro T H ⟨data0, start20, r21, p22, hT, hO, hN, h0⟩
        refine C_has hT ?_
        clear hT
        unfold slices_symMergeCmpFunc_api_Jump_h7 at h0
        obtain ⟨rr0, hl0, h0⟩ := bindE h0
        refine C_loopS (by kernel_rfl) (fun (s : List api_Jump × Int × Int) T H => Has T [(0, (.msl 2 lo0p 0 (List.length s.1))), (1, (eInt .i64 a1)), (2, (eInt .i64 m2)), (3, (eInt .i64 b3)), (4, (.fn (.func cmp4_f) cmp4_a cmp4_c)), (18, (eInt .i64 mid18)), (19, (eInt .i64 n19)), (20, (eInt .i64 s.2.1)), (21, (eInt .i64 s.2.2)), (22, (eInt .i64 p22))] ∧ Owns ⟨H0, [lo0p], []⟩ H [(lo0p, 2, List.map e_api_Jump s.1)] ∧ List.length s.1 = N0) hl0 ⟨.eq (by kernel_rfl), hO, hN⟩ ?_
        clear hO hN
        rintro k0 s out1 T H ⟨hT, hO, hN⟩ h1 ho0
        obtain ⟨data0, start20, r21⟩ := s
        replace h1 : slices_symMergeCmpFunc_api_Jump_l7 cmp4 rec a1 m2 b3 mid18 n19 p22 data0 start20 r21 = some out1 := h1
        refine C_has (l := [(0, (.msl 2 lo0p 0 (List.length data0))), (1, (eInt .i64 a1)), (2, (eInt .i64 m2)), (3, (eInt .i64 b3)), (4, (.fn (.func cmp4_f) cmp4_a cmp4_c)), (18, (eInt .i64 mid18)), (19, (eInt .i64 n19)), (20, (eInt .i64 start20)), (21, (eInt .i64 r21)), (22, (eInt .i64 p22))]) hT ?_
        clear hT
        unfold slices_symMergeCmpFunc_api_Jump_l7 at h1
        refine C_sq ?_
        refine C_sq ?_
        refine C_rg ttOk 3 ?_
        refine R_al ?_
        refine E_tn [(0, (.msl 2 lo0p 0 (List.length data0))), (1, (eInt .i64 a1)), (2, (eInt .i64 m2)), (3, (eInt .i64 b3)), (4, (.fn (.func cmp4_f) cmp4_a cmp4_c)), (18, (eInt .i64 mid18)), (19, (eInt .i64 n19)), (20, (eInt .i64 start20)), (21, (eInt .i64 r21)), (22, (eInt .i64 p22)), (151, (eBool (decide (start20 < r21))))] ?_
        refine C_cn (decide (start20 < r21)) (fun hc14 => ?_) (fun hc14 => ?_)
        · replace h1 := condT hc14 h1
          refine C_sk ?_
          refine E_tn [(0, (.msl 2 lo0p 0 (List.length data0))), (1, (eInt .i64 a1)), (2, (eInt .i64 m2)), (3, (eInt .i64 b3)), (4, (.fn (.func cmp4_f) cmp4_a cmp4_c)), (18, (eInt .i64 mid18)), (19, (eInt .i64 n19)), (20, (eInt .i64 start20)), (21, (eInt .i64 r21)), (22, (eInt .i64 p22))] ?_
          refine C_bk 9 ?_
          refine C_sq ?_
          refine C_rg ttOk 7 ?_
          obtain ⟨c15, h1⟩ := asrtE h1
          refine R_all (Ds := [0 ≤ (1 : Int)]) (by kernel_rfl) ⟨c15, trivial⟩ ?_
          refine E_tn [(0, (.msl 2 lo0p 0 (List.length data0))), (1, (eInt .i64 a1)), (2, (eInt .i64 m2)), (3, (eInt .i64 b3)), (4, (.fn (.func cmp4_f) cmp4_a cmp4_c)), (18, (eInt .i64 mid18)), (19, (eInt .i64 n19)), (20, (eInt .i64 start20)), (21, (eInt .i64 r21)), (22, (eInt .i64 p22)), (23, (eInt .i64 (IntKind.i64.wrap (Int.fdiv (IntKind.u64.wrap (IntKind.i64.wrap (start20 + r21))) (2 ^ (min (Int.toNat (1 : Int)) 64))))))] ?_
          refine C_sq ?_
          refine A_cl (C_draw (pl := plOf []) ttOk (by kernel_rfl) (n := 14) (by kernel_rfl) (by kernel_rfl) (by kernel_rfl) ?_)
          obtain ⟨c16, h1⟩ := asrtE h1
          refine D_pure 6 (by kernel_rfl) (Ds := [0 ≤ (IntKind.i64.wrap (p22 - (IntKind.i64.wrap (Int.fdiv (IntKind.u64.wrap (IntKind.i64.wrap (start20 + r21))) (2 ^ (min (Int.toNat (1 : Int)) 64)))))) ∧ (IntKind.i64.wrap (p22 - (IntKind.i64.wrap (Int.fdiv (IntKind.u64.wrap (IntKind.i64.wrap (start20 + r21))) (2 ^ (min (Int.toNat (1 : Int)) 64)))))) < ((List.length data0 : Nat) : Int)]) (by kernel_rfl) ⟨c16, trivial⟩ ?_
          refine D_loadO 0 lo0p 2 (0 + Int.toNat (IntKind.i64.wrap (p22 - (IntKind.i64.wrap (Int.fdiv (IntKind.u64.wrap (IntKind.i64.wrap (start20 + r21))) (2 ^ (min (Int.toNat (1 : Int)) 64))))))) (e_api_Jump (List.getD data0 (Int.toNat (IntKind.i64.wrap (p22 - (IntKind.i64.wrap (Int.fdiv (IntKind.u64.wrap (IntKind.i64.wrap (start20 + r21))) (2 ^ (min (Int.toNat (1 : Int)) 64))))))) default)) (e_api_Jump (List.getD data0 (Int.toNat (IntKind.i64.wrap (p22 - (IntKind.i64.wrap (Int.fdiv (IntKind.u64.wrap (IntKind.i64.wrap (start20 + r21))) (2 ^ (min (Int.toNat (1 : Int)) 64))))))) default)) (List.map e_api_Jump data0) (by kernel_rfl) (by kernel_rfl) (by kernel_rfl) (by kernel_rfl) hO (by kernel_rfl) (ownGet c16) ?_
          obtain ⟨c17, h1⟩ := asrtE h1
          refine D_pure 10 (by kernel_rfl) (Ds := [0 ≤ (IntKind.i64.wrap (Int.fdiv (IntKind.u64.wrap (IntKind.i64.wrap (start20 + r21))) (2 ^ (min (Int.toNat (1 : Int)) 64)))) ∧ (IntKind.i64.wrap (Int.fdiv (IntKind.u64.wrap (IntKind.i64.wrap (start20 + r21))) (2 ^ (min (Int.toNat (1 : Int)) 64)))) < ((List.length data0 : Nat) : Int)]) (by kernel_rfl) ⟨c17, trivial⟩ ?_
          refine D_loadO 0 lo0p 2 (0 + Int.toNat (IntKind.i64.wrap (Int.fdiv (IntKind.u64.wrap (IntKind.i64.wrap (start20 + r21))) (2 ^ (min (Int.toNat (1 : Int)) 64))))) (e_api_Jump (List.getD data0 (Int.toNat (IntKind.i64.wrap (Int.fdiv (IntKind.u64.wrap (IntKind.i64.wrap (start20 + r21))) (2 ^ (min (Int.toNat (1 : Int)) 64))))) default)) (e_api_Jump (List.getD data0 (Int.toNat (IntKind.i64.wrap (Int.fdiv (IntKind.u64.wrap (IntKind.i64.wrap (start20 + r21))) (2 ^ (min (Int.toNat (1 : Int)) 64))))) default)) (List.map e_api_Jump data0) (by kernel_rfl) (by kernel_rfl) (by kernel_rfl) (by kernel_rfl) hO (by kernel_rfl) (ownGet c17) ?_
          obtain ⟨x18, hx19, h1⟩ := bindE h1
          refine D_callO cmp4_f (cmp4_a ++ [(e_api_Jump (List.getD data0 (Int.toNat (IntKind.i64.wrap (p22 - (IntKind.i64.wrap (Int.fdiv (IntKind.u64.wrap (IntKind.i64.wrap (start20 + r21))) (2 ^ (min (Int.toNat (1 : Int)) 64))))))) default)), (e_api_Jump (List.getD data0 (Int.toNat (IntKind.i64.wrap (Int.fdiv (IntKind.u64.wrap (IntKind.i64.wrap (start20 + r21))) (2 ^ (min (Int.toNat (1 : Int)) 64))))) default))] ++ cmp4_c) (eInt .i64 x18) (by kernel_rfl) (by kernel_rfl) (cmp4_h (List.getD data0 (Int.toNat (IntKind.i64.wrap (p22 - (IntKind.i64.wrap (Int.fdiv (IntKind.u64.wrap (IntKind.i64.wrap (start20 + r21))) (2 ^ (min (Int.toNat (1 : Int)) 64))))))) default) (List.getD data0 (Int.toNat (IntKind.i64.wrap (Int.fdiv (IntKind.u64.wrap (IntKind.i64.wrap (start20 + r21))) (2 ^ (min (Int.toNat (1 : Int)) 64))))) default) _ hx19) hO ?_
          intro H hO
          refine D_al ?_
          refine E_tn [(0, (.msl 2 lo0p 0 (List.length data0))), (1, (eInt .i64 a1)), (2, (eInt .i64 m2)), (3, (eInt .i64 b3)), (4, (.fn (.func cmp4_f) cmp4_a cmp4_c)), (18, (eInt .i64 mid18)), (19, (eInt .i64 n19)), (20, (eInt .i64 start20)), (21, (eInt .i64 r21)), (22, (eInt .i64 p22)), (23, (eInt .i64 (IntKind.i64.wrap (Int.fdiv (IntKind.u64.wrap (IntKind.i64.wrap (start20 + r21))) (2 ^ (min (Int.toNat (1 : Int)) 64)))))), (171, (eBool (!(decide (x18 < (0 : Int))))))] ?_
          refine C_cn (!(decide (x18 < (0 : Int)))) (fun hc21 => ?_) (fun hc21 => ?_)
          · replace h1 := condT hc21 h1
            refine C_rg ttOk 3 ?_
            refine R_al ?_
            refine E_hk [(0, (.msl 2 lo0p 0 (List.length data0))), (1, (eInt .i64 a1)), (2, (eInt .i64 m2)), (3, (eInt .i64 b3)), (4, (.fn (.func cmp4_f) cmp4_a cmp4_c)), (18, (eInt .i64 mid18)), (19, (eInt .i64 n19)), (20, (eInt .i64 (IntKind.i64.wrap ((IntKind.i64.wrap (Int.fdiv (IntKind.u64.wrap (IntKind.i64.wrap (start20 + r21))) (2 ^ (min (Int.toNat (1 : Int)) 64)))) + (1 : Int))))), (21, (eInt .i64 r21)), (22, (eInt .i64 p22))] ?_
            exact E_done (blockA_normal (thenA_normal (⟨rfl, (data0, IntKind.i64.wrap ((IntKind.i64.wrap (Int.fdiv (IntKind.u64.wrap (IntKind.i64.wrap (start20 + r21))) (2 ^ (min (Int.toNat (1 : Int)) 64)))) + (1 : Int)), r21), (Option.some.inj h1).symm, .eq (by kernel_rfl), hO, hN⟩)))
          replace h1 := condF hc21 h1
          refine C_rg ttOk 2 ?_
          refine R_al ?_
          refine E_hk [(0, (.msl 2 lo0p 0 (List.length data0))), (1, (eInt .i64 a1)), (2, (eInt .i64 m2)), (3, (eInt .i64 b3)), (4, (.fn (.func cmp4_f) cmp4_a cmp4_c)), (18, (eInt .i64 mid18)), (19, (eInt .i64 n19)), (20, (eInt .i64 start20)), (21, (eInt .i64 (IntKind.i64.wrap (Int.fdiv (IntKind.u64.wrap (IntKind.i64.wrap (start20 + r21))) (2 ^ (min (Int.toNat (1 : Int)) 64)))))), (22, (eInt .i64 p22))] ?_
          exact E_done (blockA_normal (thenA_normal (⟨rfl, (data0, start20, IntKind.i64.wrap (Int.fdiv (IntKind.u64.wrap (IntKind.i64.wrap (start20 + r21))) (2 ^ (min (Int.toNat (1 : Int)) 64)))), (Option.some.inj h1).symm, .eq (by kernel_rfl), hO, hN⟩)))
        replace h1 := condF hc14 h1
        refine C_ex 8 ?_
        refine E_hk [(0, (.msl 2 lo0p 0 (List.length data0))), (1, (eInt .i64 a1)), (2, (eInt .i64 m2)), (3, (eInt .i64 b3)), (4, (.fn (.func cmp4_f) cmp4_a cmp4_c)), (18, (eInt .i64 mid18)), (19, (eInt .i64 n19)), (20, (eInt .i64 start20))] ?_
        obtain rfl := Option.some.inj h1
        obtain rfl : _ = rr0 := ho0
        replace h0 : slices_symMergeCmpFunc_api_Jump_j4 cmp4 rec data0 a1 m2 b3 mid18 n19 start20 = some r := h0
        exact E_done (thenA_exit (thenA_exit (blockA_hit (thenA_normal (⟨rfl, data0, start20, .eq (by kernel_rfl), hO, hN, h0⟩)))))
      refine C_sq ?_
      refine C_rg ttOk 3 ?_
      refine R_al ?_
      refine E_tn [(0, (.msl 2 lo0p 0 (List.length data0))), (1, (eInt .i64 a1)), (2, (eInt .i64 m2)), (3, (eInt .i64 b3)), (4, (.fn (.func cmp4_f) cmp4_a cmp4_c)), (18, (eInt .i64 (IntKind.i64.wrap (Int.fdiv (IntKind.u64.wrap (IntKind.i64.wrap (a1 + b3))) (2 ^ (min (Int.toNat (1 : Int)) 64)))))), (19, (eInt .i64 (IntKind.i64.wrap ((IntKind.i64.wrap (Int.fdiv (IntKind.u64.wrap (IntKind.i64.wrap (a1 + b3))) (2 ^ (min (Int.toNat (1 : Int)) 64)))) + m2)))), (140, (eBool (decide ((IntKind.i64.wrap (Int.fdiv (IntKind.u64.wrap (IntKind.i64.wrap (a1 + b3))) (2 ^ (min (Int.toNat (1 : Int)) 64)))) < m2))))] ?_
      refine C_cn (decide ((IntKind.i64.wrap (Int.fdiv (IntKind.u64.wrap (IntKind.i64.wrap (a1 + b3))) (2 ^ (min (Int.toNat (1 : Int)) 64)))) < m2)) (fun hc22 => ?_) (fun hc22 => ?_)
      · replace h0 := condT hc22 h0
        refine C_sq ?_
        refine C_rg ttOk 4 ?_
        refine R_al ?_
        refine E_tn [(0, (.msl 2 lo0p 0 (List.length data0))), (1, (eInt .i64 a1)), (2, (eInt .i64 m2)), (3, (eInt .i64 b3)), (4, (.fn (.func cmp4_f) cmp4_a cmp4_c)), (18, (eInt .i64 (IntKind.i64.wrap (Int.fdiv (IntKind.u64.wrap (IntKind.i64.wrap (a1 + b3))) (2 ^ (min (Int.toNat (1 : Int)) 64)))))), (19, (eInt .i64 (IntKind.i64.wrap ((IntKind.i64.wrap (Int.fdiv (IntKind.u64.wrap (IntKind.i64.wrap (a1 + b3))) (2 ^ (min (Int.toNat (1 : Int)) 64)))) + m2)))), (20, (eInt .i64 (IntKind.i64.wrap ((IntKind.i64.wrap ((IntKind.i64.wrap (Int.fdiv (IntKind.u64.wrap (IntKind.i64.wrap (a1 + b3))) (2 ^ (min (Int.toNat (1 : Int)) 64)))) + m2)) - b3))))] ?_
        refine C_rg ttOk 2 ?_
        refine R_al ?_
        refine E_hk [(0, (.msl 2 lo0p 0 (List.length data0))), (1, (eInt .i64 a1)), (2, (eInt .i64 m2)), (3, (eInt .i64 b3)), (4, (.fn (.func cmp4_f) cmp4_a cmp4_c)), (18, (eInt .i64 (IntKind.i64.wrap (Int.fdiv (IntKind.u64.wrap (IntKind.i64.wrap (a1 + b3))) (2 ^ (min (Int.toNat (1 : Int)) 64)))))), (19, (eInt .i64 (IntKind.i64.wrap ((IntKind.i64.wrap (Int.fdiv (IntKind.u64.wrap (IntKind.i64.wrap (a1 + b3))) (2 ^ (min (Int.toNat (1 : Int)) 64)))) + m2)))), (20, (eInt .i64 (IntKind.i64.wrap ((IntKind.i64.wrap ((IntKind.i64.wrap (Int.fdiv (IntKind.u64.wrap (IntKind.i64.wrap (a1 + b3))) (2 ^ (min (Int.toNat (1 : Int)) 64)))) + m2)) - b3)))), (21, (eInt .i64 (IntKind.i64.wrap (Int.fdiv (IntKind.u64.wrap (IntKind.i64.wrap (a1 + b3))) (2 ^ (min (Int.toNat (1 : Int)) 64))))))] ?_
        exact E_done (thenA_normal (⟨rfl, data0, IntKind.i64.wrap (Int.fdiv (IntKind.u64.wrap (IntKind.i64.wrap (a1 + b3))) (2 ^ (min (Int.toNat (1 : Int)) 64))), IntKind.i64.wrap ((IntKind.i64.wrap (Int.fdiv (IntKind.u64.wrap (IntKind.i64.wrap (a1 + b3))) (2 ^ (min (Int.toNat (1 : Int)) 64)))) + m2), IntKind.i64.wrap ((IntKind.i64.wrap ((IntKind.i64.wrap (Int.fdiv (IntKind.u64.wrap (IntKind.i64.wrap (a1 + b3))) (2 ^ (min (Int.toNat (1 : Int)) 64)))) + m2)) - b3), IntKind.i64.wrap (Int.fdiv (IntKind.u64.wrap (IntKind.i64.wrap (a1 + b3))) (2 ^ (min (Int.toNat (1 : Int)) 64))), .eq (by kernel_rfl), hO, hN, h0⟩))
      replace h0 := condF hc22 h0
      refine C_sq ?_
      refine C_rg ttOk 2 ?_
      refine R_al ?_
      refine E_tn [(0, (.msl 2 lo0p 0 (List.length data0))), (1, (eInt .i64 a1)), (2, (eInt .i64 m2)), (3, (eInt .i64 b3)), (4, (.fn (.func cmp4_f) cmp4_a cmp4_c)), (18, (eInt .i64 (IntKind.i64.wrap (Int.fdiv (IntKind.u64.wrap (IntKind.i64.wrap (a1 + b3))) (2 ^ (min (Int.toNat (1 : Int)) 64)))))), (19, (eInt .i64 (IntKind.i64.wrap ((IntKind.i64.wrap (Int.fdiv (IntKind.u64.wrap (IntKind.i64.wrap (a1 + b3))) (2 ^ (min (Int.toNat (1 : Int)) 64)))) + m2)))), (20, (eInt .i64 a1))] ?_
      refine C_rg ttOk 2 ?_
      refine R_al ?_
      refine E_hk [(0, (.msl 2 lo0p 0 (List.length data0))), (1, (eInt .i64 a1)), (2, (eInt .i64 m2)), (3, (eInt .i64 b3)), (4, (.fn (.func cmp4_f) cmp4_a cmp4_c)), (18, (eInt .i64 (IntKind.i64.wrap (Int.fdiv (IntKind.u64.wrap (IntKind.i64.wrap (a1 + b3))) (2 ^ (min (Int.toNat (1 : Int)) 64)))))), (19, (eInt .i64 (IntKind.i64.wrap ((IntKind.i64.wrap (Int.fdiv (IntKind.u64.wrap (IntKind.i64.wrap (a1 + b3))) (2 ^ (min (Int.toNat (1 : Int)) 64)))) + m2)))), (20, (eInt .i64 a1)), (21, (eInt .i64 m2))] ?_
      exact E_done (thenA_normal (⟨rfl, data0, IntKind.i64.wrap (Int.fdiv (IntKind.u64.wrap (IntKind.i64.wrap (a1 + b3))) (2 ^ (min (Int.toNat (1 : Int)) 64))), IntKind.i64.wrap ((IntKind.i64.wrap (Int.fdiv (IntKind.u64.wrap (IntKind.i64.wrap (a1 + b3))) (2 ^ (min (Int.toNat (1 : Int)) 64)))) + m2), a1, m2, .eq (by kernel_rfl), hO, hN, h0⟩))
    refine C_sq ?_
    refine C_rg ttOk 4 ?_
    refine R_al ?_
    refine E_tn [(0, (.msl 2 lo0p 0 (List.length data0))), (1, (eInt .i64 a1)), (2, (eInt .i64 m2)), (3, (eInt .i64 b3)), (4, (.fn (.func cmp4_f) cmp4_a cmp4_c)), (80, (eBool (decide ((IntKind.i64.wrap (b3 - m2)) = (1 : Int)))))] ?_
    refine C_cn (decide ((IntKind.i64.wrap (b3 - m2)) = (1 : Int))) (fun hc23 => ?_) (fun hc23 => ?_)
    · replace h0 := condT hc23 h0
      refine C_sq ?_
      refine C_rg ttOk 2 ?_
      refine R_al ?_
      refine E_tn [(0, (.msl 2 lo0p 0 (List.length data0))), (2, (eInt .i64 m2)), (4, (.fn (.func cmp4_f) cmp4_a cmp4_c)), (14, (eInt .i64 a1))] ?_
      refine C_sq ?_
      refine C_rg ttOk 2 ?_
      refine R_al ?_
      refine E_tn [(0, (.msl 2 lo0p 0 (List.length data0))), (2, (eInt .i64 m2)), (4, (.fn (.func cmp4_f) cmp4_a cmp4_c)), (14, (eInt .i64 a1)), (15, (eInt .i64 m2))] ?_
      refine C_seqJ (by kernel_rfl) (fun T H => ∃ data0 : List api_Jump, ∃ i14 : Int, Has T [(0, (.msl 2 lo0p 0 (List.length data0))), (2, (eInt .i64 m2)), (14, (eInt .i64 i14))] ∧ Owns ⟨H0, [lo0p], []⟩ H [(lo0p, 2, List.map e_api_Jump data0)] ∧ List.length data0 = N0 ∧ slices_symMergeCmpFunc_api_Jump_j8 cmp4 rec data0 m2 i14 = some r) ?_ ?_
      · clear hO hN h0
        rintro T H ⟨data0, i14, hT, hO, hN, h0⟩
        refine C_has hT ?_
        clear hT
        unfold slices_symMergeCmpFunc_api_Jump_j8 at h0
        refine C_seqJ (by kernel_rfl) (fun T H => ∃ data0 : List api_Jump, Has T [(0, (.msl 2 lo0p 0 (List.length data0)))] ∧ Owns ⟨H0, [lo0p], []⟩ H [(lo0p, 2, List.map e_api_Jump data0)] ∧ List.length data0 = N0 ∧ slices_symMergeCmpFunc_api_Jump_j9 cmp4 rec data0 = some r) ?_ ?_
        · clear hO hN h0
          rintro T H ⟨data0, hT, hO, hN, h0⟩
          refine C_has hT ?_
          clear hT
          unfold slices_symMergeCmpFunc_api_Jump_j9 at h0
          refine C_rt ?_
          refine E_hk [(0, (.msl 2 lo0p 0 (List.length data0)))] ?_
          obtain rfl := Option.some.inj h0
          exact E_done (thenA_ret (Q_ret (x := (.tup [])) (by kernel_rfl) (SubV.refl _) ⟨rfl, hO.ext, hO.at 0 (by kernel_rfl), by simp only [List.length_map]; exact hN.trans hN0⟩))
        refine C_sq ?_
        refine C_rg ttOk 2 ?_
        refine R_al ?_
        refine E_tn [(0, (.msl 2 lo0p 0 (List.length data0))), (14, (eInt .i64 i14)), (17, (eInt .i64 m2))] ?_
        refine C_bk 6 ?_
        refine C_hk [(0, (.msl 2 lo0p 0 (List.length data0))), (14, (eInt .i64 i14)), (17, (eInt .i64 m2))] ?_
        refine C_cut (fun T H => ∃ data0 : List api_Jump, ∃ k17 : Int, Has T [(0, (.msl 2 lo0p 0 (List.length data0))), (14, (eInt .i64 i14)), (17, (eInt .i64 k17))] ∧ Owns ⟨H0, [lo0p], []⟩ H [(lo0p, 2, List.map e_api_Jump data0)] ∧ List.length data0 = N0 ∧ slices_symMergeCmpFunc_api_Jump_h10 cmp4 rec data0 i14 k17 = some r) ?_ ⟨data0, m2, .eq (by kernel_rfl), hO, hN, h0⟩
        clear hO hN h0
        rintro T H ⟨data0, k17, hT, hO, hN, h0⟩
        refine C_has hT ?_
        clear hT
        unfold slices_symMergeCmpFunc_api_Jump_h10 at h0
        obtain ⟨rr0, hl0, h0⟩ := bindE h0
        refine C_loopS (by kernel_rfl) (fun (s : List api_Jump × Int) T H => Has T [(0, (.msl 2 lo0p 0 (List.length s.1))), (14, (eInt .i64 i14)), (17, (eInt .i64 s.2))] ∧ Owns ⟨H0, [lo0p], []⟩ H [(lo0p, 2, List.map e_api_Jump s.1)] ∧ List.length s.1 = N0) hl0 ⟨.eq (by kernel_rfl), hO, hN⟩ ?_
        clear hO hN
        rintro k0 s out1 T H ⟨hT, hO, hN⟩ h1 ho0
        obtain ⟨data0, k17⟩ := s
        replace h1 : slices_symMergeCmpFunc_api_Jump_l10 cmp4 rec i14 data0 k17 = some out1 := h1
        refine C_has (l := [(0, (.msl 2 lo0p 0 (List.length data0))), (14, (eInt .i64 i14)), (17, (eInt .i64 k17))]) hT ?_
        clear hT
        unfold slices_symMergeCmpFunc_api_Jump_l10 at h1
        refine C_sq ?_
        refine C_sq ?_
        refine C_rg ttOk 3 ?_
        refine R_al ?_
        refine E_tn [(0, (.msl 2 lo0p 0 (List.length data0))), (14, (eInt .i64 i14)), (17, (eInt .i64 k17)), (110, (eBool (decide (i14 < k17))))] ?_
        refine C_cn (decide (i14 < k17)) (fun hc24 => ?_) (fun hc24 => ?_)
        · replace h1 := condT hc24 h1
          refine C_sk ?_
          refine E_tn [(0, (.msl 2 lo0p 0 (List.length data0))), (14, (eInt .i64 i14)), (17, (eInt .i64 k17))] ?_
          refine C_sq ?_
          refine C_bk 7 ?_
          refine A_cl (C_draw (pl := plOf []) ttOk (by kernel_rfl) (n := 18) (by kernel_rfl) (by kernel_rfl) (by kernel_rfl) ?_)
          obtain ⟨c25, h1⟩ := asrtE h1
          refine D_pure 9 (by kernel_rfl) (Ds := [0 ≤ (IntKind.i64.wrap (k17 - (1 : Int))) ∧ (IntKind.i64.wrap (k17 - (1 : Int))) < ((List.length data0 : Nat) : Int)]) (by kernel_rfl) ⟨c25, trivial⟩ ?_
          refine D_loadO 0 lo0p 2 (0 + Int.toNat (IntKind.i64.wrap (k17 - (1 : Int)))) (e_api_Jump (List.getD data0 (Int.toNat (IntKind.i64.wrap (k17 - (1 : Int)))) default)) (e_api_Jump (List.getD data0 (Int.toNat (IntKind.i64.wrap (k17 - (1 : Int)))) default)) (List.map e_api_Jump data0) (by kernel_rfl) (by kernel_rfl) (by kernel_rfl) (by kernel_rfl) hO (by kernel_rfl) (ownGet c25) ?_
          obtain ⟨c26, h1⟩ := asrtE h1
          refine D_pure 13 (by kernel_rfl) (Ds := [0 ≤ k17 ∧ k17 < ((List.length data0 : Nat) : Int)]) (by kernel_rfl) ⟨c26, trivial⟩ ?_
          refine D_loadO 0 lo0p 2 (0 + Int.toNat k17) (e_api_Jump (List.getD data0 (Int.toNat k17) default)) (e_api_Jump (List.getD data0 (Int.toNat k17) default)) (List.map e_api_Jump data0) (by kernel_rfl) (by kernel_rfl) (by kernel_rfl) (by kernel_rfl) hO (by kernel_rfl) (ownGet c26) ?_
          obtain ⟨c27, h1⟩ := asrtE h1
          refine D_pure 15 (by kernel_rfl) (Ds := [0 ≤ k17 ∧ k17 < ((List.length data0 : Nat) : Int)]) (by kernel_rfl) ⟨c27, trivial⟩ ?_
          refine D_storeO 0 lo0p 2 (0 + Int.toNat k17) (e_api_Jump (List.getD data0 (Int.toNat k17) default)) (e_api_Jump (List.getD data0 (Int.toNat (IntKind.i64.wrap (k17 - (1 : Int)))) default)) (List.map e_api_Jump data0) [(lo0p, 2, List.map e_api_Jump (List.set data0 (Int.toNat k17) (List.getD data0 (Int.toNat (IntKind.i64.wrap (k17 - (1 : Int)))) default)))] (by kernel_rfl) (by kernel_rfl) (by kernel_rfl) hO (by kernel_rfl) (ownGet c27) (by simp only [List.set, ownSet]) ?_
          intro H hO
          replace hN : List.length (List.set data0 (Int.toNat k17) (List.getD data0 (Int.toNat (IntKind.i64.wrap (k17 - (1 : Int)))) default)) = N0 := by simpa using hN
          obtain ⟨c28, h1⟩ := asrtE h1
          refine D_pure 17 (by kernel_rfl) (Ds := [0 ≤ (IntKind.i64.wrap (k17 - (1 : Int))) ∧ (IntKind.i64.wrap (k17 - (1 : Int))) < ((List.length data0 : Nat) : Int)]) (by kernel_rfl) ⟨c28, trivial⟩ ?_
          refine D_storeO 0 lo0p 2 (0 + Int.toNat (IntKind.i64.wrap (k17 - (1 : Int)))) (e_api_Jump (List.getD (List.set data0 (Int.toNat k17) (List.getD data0 (Int.toNat (IntKind.i64.wrap (k17 - (1 : Int)))) default)) (Int.toNat (IntKind.i64.wrap (k17 - (1 : Int)))) default)) (e_api_Jump (List.getD data0 (Int.toNat k17) default)) (List.map e_api_Jump (List.set data0 (Int.toNat k17) (List.getD data0 (Int.toNat (IntKind.i64.wrap (k17 - (1 : Int)))) default))) [(lo0p, 2, List.map e_api_Jump (List.set (List.set data0 (Int.toNat k17) (List.getD data0 (Int.toNat (IntKind.i64.wrap (k17 - (1 : Int)))) default)) (Int.toNat (IntKind.i64.wrap (k17 - (1 : Int)))) (List.getD data0 (Int.toNat k17) default)))] (by kernel_rfl) (by kernel_rfl) (by kernel_rfl) hO (by kernel_rfl) (ownGetN c28 (by simp [])) (by simp only [List.set, ownSet]) ?_
          intro H hO
          replace hN : List.length (List.set (List.set data0 (Int.toNat k17) (List.getD data0 (Int.toNat (IntKind.i64.wrap (k17 - (1 : Int)))) default)) (Int.toNat (IntKind.i64.wrap (k17 - (1 : Int)))) (List.getD data0 (Int.toNat k17) default)) = N0 := by simpa using hN
          refine D_end (by kernel_rfl) ?_
          refine E_has (l := [(0, (.msl 2 lo0p 0 (List.length (List.set (List.set data0 (Int.toNat k17) (List.getD data0 (Int.toNat (IntKind.i64.wrap (k17 - (1 : Int)))) default)) (Int.toNat (IntKind.i64.wrap (k17 - (1 : Int)))) (List.getD data0 (Int.toNat k17) default))))), (14, (eInt .i64 i14)), (17, (eInt .i64 k17))]) ⟨[(0, (.msl 2 lo0p 0 (List.length data0))), (14, (eInt .i64 i14)), (17, (eInt .i64 k17))], by kernel_rfl, rfl, ⟨SubV.eq (by simp []), SubV.refl _, SubV.refl _, trivial⟩⟩ ?_
          refine E_done (blockA_normal (thenA_normal (?_)))
          refine C_rg ttOk 3 ?_
          refine R_al ?_
          refine E_hk [(0, (.msl 2 lo0p 0 (List.length (List.set (List.set data0 (Int.toNat k17) (List.getD data0 (Int.toNat (IntKind.i64.wrap (k17 - (1 : Int)))) default)) (Int.toNat (IntKind.i64.wrap (k17 - (1 : Int)))) (List.getD data0 (Int.toNat k17) default))))), (14, (eInt .i64 i14)), (17, (eInt .i64 (IntKind.i64.wrap (k17 - (1 : Int)))))] ?_
          exact E_done (thenA_normal (⟨rfl, (List.set (List.set data0 (Int.toNat k17) (List.getD data0 (Int.toNat (IntKind.i64.wrap (k17 - (1 : Int)))) default)) (Int.toNat (IntKind.i64.wrap (k17 - (1 : Int)))) (List.getD data0 (Int.toNat k17) default), IntKind.i64.wrap (k17 - (1 : Int))), (Option.some.inj h1).symm, .eq (by kernel_rfl), hO, hN⟩))
        replace h1 := condF hc24 h1
        refine C_ex 6 ?_
        refine E_hk [(0, (.msl 2 lo0p 0 (List.length data0)))] ?_
        obtain rfl := Option.some.inj h1
        obtain rfl : _ = rr0 := ho0
        replace h0 : slices_symMergeCmpFunc_api_Jump_j9 cmp4 rec data0 = some r := h0
        exact E_done (thenA_exit (thenA_exit (blockA_hit (thenA_normal (⟨rfl, data0, .eq (by kernel_rfl), hO, hN, h0⟩)))))
      refine C_bk 4 ?_
      refine C_hk [(0, (.msl 2 lo0p 0 (List.length data0))), (2, (eInt .i64 m2)), (4, (.fn (.func cmp4_f) cmp4_a cmp4_c)), (14, (eInt .i64 a1)), (15, (eInt .i64 m2))] ?_
      refine C_cut (fun T H => ∃ data0 : List api_Jump, ∃ i14 : Int, ∃ j15 : Int, Has T [(0, (.msl 2 lo0p 0 (List.length data0))), (2, (eInt .i64 m2)), (4, (.fn (.func cmp4_f) cmp4_a cmp4_c)), (14, (eInt .i64 i14)), (15, (eInt .i64 j15))] ∧ Owns ⟨H0, [lo0p], []⟩ H [(lo0p, 2, List.map e_api_Jump data0)] ∧ List.length data0 = N0 ∧ slices_symMergeCmpFunc_api_Jump_h11 cmp4 rec data0 m2 i14 j15 = some r) ?_ ⟨data0, a1, m2, .eq (by kernel_rfl), hO, hN, h0⟩
      clear hO hN h0
      rintro T H ⟨data0, i14, j15, hT, hO, hN, h0⟩
      refine C_has hT ?_
      clear hT
      unfold slices_symMergeCmpFunc_api_Jump_h11 at h0
      obtain ⟨rr0, hl0, h0⟩ := bindE h0
      refine C_loopS (by kernel_rfl) (fun (s : List api_Jump × Int × Int) T H => Has T [(0, (.msl 2 lo0p 0 (List.length s.1))), (2, (eInt .i64 m2)), (4, (.fn (.func cmp4_f) cmp4_a cmp4_c)), (14, (eInt .i64 s.2.1)), (15, (eInt .i64 s.2.2))] ∧ Owns ⟨H0, [lo0p], []⟩ H [(lo0p, 2, List.map e_api_Jump s.1)] ∧ List.length s.1 = N0) hl0 ⟨.eq (by kernel_rfl), hO, hN⟩ ?_
      clear hO hN
      rintro k0 s out1 T H ⟨hT, hO, hN⟩ h1 ho0
      obtain ⟨data0, i14, j15⟩ := s
      replace h1 : slices_symMergeCmpFunc_api_Jump_l11 cmp4 rec m2 data0 i14 j15 = some out1 := h1
      refine C_has (l := [(0, (.msl 2 lo0p 0 (List.length data0))), (2, (eInt .i64 m2)), (4, (.fn (.func cmp4_f) cmp4_a cmp4_c)), (14, (eInt .i64 i14)), (15, (eInt .i64 j15))]) hT ?_
      clear hT
      unfold slices_symMergeCmpFunc_api_Jump_l11 at h1
      refine C_sq ?_
      refine C_sq ?_
      refine C_rg ttOk 3 ?_
      refine R_al ?_
      refine E_tn [(0, (.msl 2 lo0p 0 (List.length data0))), (2, (eInt .i64 m2)), (4, (.fn (.func cmp4_f) cmp4_a cmp4_c)), (14, (eInt .i64 i14)), (15, (eInt .i64 j15)), (85, (eBool (decide (i14 < j15))))] ?_
      refine C_cn (decide (i14 < j15)) (fun hc29 => ?_) (fun hc29 => ?_)
      · replace h1 := condT hc29 h1
        refine C_sk ?_
        refine E_tn [(0, (.msl 2 lo0p 0 (List.length data0))), (2, (eInt .i64 m2)), (4, (.fn (.func cmp4_f) cmp4_a cmp4_c)), (14, (eInt .i64 i14)), (15, (eInt .i64 j15))] ?_
        refine C_bk 5 ?_
        refine C_sq ?_
        refine C_rg ttOk 7 ?_
        obtain ⟨c30, h1⟩ := asrtE h1
        refine R_all (Ds := [0 ≤ (1 : Int)]) (by kernel_rfl) ⟨c30, trivial⟩ ?_
        refine E_tn [(0, (.msl 2 lo0p 0 (List.length data0))), (2, (eInt .i64 m2)), (4, (.fn (.func cmp4_f) cmp4_a cmp4_c)), (14, (eInt .i64 i14)), (15, (eInt .i64 j15)), (16, (eInt .i64 (IntKind.i64.wrap (Int.fdiv (IntKind.u64.wrap (IntKind.i64.wrap (i14 + j15))) (2 ^ (min (Int.toNat (1 : Int)) 64))))))] ?_
        refine C_sq ?_
        refine A_cl (C_draw (pl := plOf []) ttOk (by kernel_rfl) (n := 12) (by kernel_rfl) (by kernel_rfl) (by kernel_rfl) ?_)
        obtain ⟨c31, h1⟩ := asrtE h1
        refine D_pure 4 (by kernel_rfl) (Ds := [0 ≤ m2 ∧ m2 < ((List.length data0 : Nat) : Int)]) (by kernel_rfl) ⟨c31, trivial⟩ ?_
        refine D_loadO 0 lo0p 2 (0 + Int.toNat m2) (e_api_Jump (List.getD data0 (Int.toNat m2) default)) (e_api_Jump (List.getD data0 (Int.toNat m2) default)) (List.map e_api_Jump data0) (by kernel_rfl) (by kernel_rfl) (by kernel_rfl) (by kernel_rfl) hO (by kernel_rfl) (ownGet c31) ?_
        obtain ⟨c32, h1⟩ := asrtE h1
        refine D_pure 8 (by kernel_rfl) (Ds := [0 ≤ (IntKind.i64.wrap (Int.fdiv (IntKind.u64.wrap (IntKind.i64.wrap (i14 + j15))) (2 ^ (min (Int.toNat (1 : Int)) 64)))) ∧ (IntKind.i64.wrap (Int.fdiv (IntKind.u64.wrap (IntKind.i64.wrap (i14 + j15))) (2 ^ (min (Int.toNat (1 : Int)) 64)))) < ((List.length data0 : Nat) : Int)]) (by kernel_rfl) ⟨c32, trivial⟩ ?_
        refine D_loadO 0 lo0p 2 (0 + Int.toNat (IntKind.i64.wrap (Int.fdiv (IntKind.u64.wrap (IntKind.i64.wrap (i14 + j15))) (2 ^ (min (Int.toNat (1 : Int)) 64))))) (e_api_Jump (List.getD data0 (Int.toNat (IntKind.i64.wrap (Int.fdiv (IntKind.u64.wrap (IntKind.i64.wrap (i14 + j15))) (2 ^ (min (Int.toNat (1 : Int)) 64))))) default)) (e_api_Jump (List.getD data0 (Int.toNat (IntKind.i64.wrap (Int.fdiv (IntKind.u64.wrap (IntKind.i64.wrap (i14 + j15))) (2 ^ (min (Int.toNat (1 : Int)) 64))))) default)) (List.map e_api_Jump data0) (by kernel_rfl) (by kernel_rfl) (by kernel_rfl) (by kernel_rfl) hO (by kernel_rfl) (ownGet c32) ?_
        obtain ⟨x33, hx34, h1⟩ := bindE h1
        refine D_callO cmp4_f (cmp4_a ++ [(e_api_Jump (List.getD data0 (Int.toNat m2) default)), (e_api_Jump (List.getD data0 (Int.toNat (IntKind.i64.wrap (Int.fdiv (IntKind.u64.wrap (IntKind.i64.wrap (i14 + j15))) (2 ^ (min (Int.toNat (1 : Int)) 64))))) default))] ++ cmp4_c) (eInt .i64 x33) (by kernel_rfl) (by kernel_rfl) (cmp4_h (List.getD data0 (Int.toNat m2) default) (List.getD data0 (Int.toNat (IntKind.i64.wrap (Int.fdiv (IntKind.u64.wrap (IntKind.i64.wrap (i14 + j15))) (2 ^ (min (Int.toNat (1 : Int)) 64))))) default) _ hx34) hO ?_
        intro H hO
        refine D_al ?_
        refine E_tn [(0, (.msl 2 lo0p 0 (List.length data0))), (2, (eInt .i64 m2)), (4, (.fn (.func cmp4_f) cmp4_a cmp4_c)), (14, (eInt .i64 i14)), (15, (eInt .i64 j15)), (16, (eInt .i64 (IntKind.i64.wrap (Int.fdiv (IntKind.u64.wrap (IntKind.i64.wrap (i14 + j15))) (2 ^ (min (Int.toNat (1 : Int)) 64)))))), (103, (eBool (!(decide (x33 < (0 : Int))))))] ?_
        refine C_cn (!(decide (x33 < (0 : Int)))) (fun hc36 => ?_) (fun hc36 => ?_)
        · replace h1 := condT hc36 h1
          refine C_rg ttOk 3 ?_
          refine R_al ?_
          refine E_hk [(0, (.msl 2 lo0p 0 (List.length data0))), (2, (eInt .i64 m2)), (4, (.fn (.func cmp4_f) cmp4_a cmp4_c)), (14, (eInt .i64 (IntKind.i64.wrap ((IntKind.i64.wrap (Int.fdiv (IntKind.u64.wrap (IntKind.i64.wrap (i14 + j15))) (2 ^ (min (Int.toNat (1 : Int)) 64)))) + (1 : Int))))), (15, (eInt .i64 j15))] ?_
          exact E_done (blockA_normal (thenA_normal (⟨rfl, (data0, IntKind.i64.wrap ((IntKind.i64.wrap (Int.fdiv (IntKind.u64.wrap (IntKind.i64.wrap (i14 + j15))) (2 ^ (min (Int.toNat (1 : Int)) 64)))) + (1 : Int)), j15), (Option.some.inj h1).symm, .eq (by kernel_rfl), hO, hN⟩)))
        replace h1 := condF hc36 h1
        refine C_rg ttOk 2 ?_
        refine R_al ?_
        refine E_hk [(0, (.msl 2 lo0p 0 (List.length data0))), (2, (eInt .i64 m2)), (4, (.fn (.func cmp4_f) cmp4_a cmp4_c)), (14, (eInt .i64 i14)), (15, (eInt .i64 (IntKind.i64.wrap (Int.fdiv (IntKind.u64.wrap (IntKind.i64.wrap (i14 + j15))) (2 ^ (min (Int.toNat (1 : Int)) 64))))))] ?_
        exact E_done (blockA_normal (thenA_normal (⟨rfl, (data0, i14, IntKind.i64.wrap (Int.fdiv (IntKind.u64.wrap (IntKind.i64.wrap (i14 + j15))) (2 ^ (min (Int.toNat (1 : Int)) 64)))), (Option.some.inj h1).symm, .eq (by kernel_rfl), hO, hN⟩)))
      replace h1 := condF hc29 h1
      refine C_ex 4 ?_
      refine E_hk [(0, (.msl 2 lo0p 0 (List.length data0))), (2, (eInt .i64 m2)), (14, (eInt .i64 i14))] ?_
      obtain rfl := Option.some.inj h1
      obtain rfl : _ = rr0 := ho0
      replace h0 : slices_symMergeCmpFunc_api_Jump_j8 cmp4 rec data0 m2 i14 = some r := h0
      exact E_done (thenA_exit (thenA_exit (blockA_hit (thenA_normal (⟨rfl, data0, i14, .eq (by kernel_rfl), hO, hN, h0⟩)))))
    replace h0 := condF hc23 h0
    refine C_sk ?_
    refine E_hk [(0, (.msl 2 lo0p 0 (List.length data0))), (1, (eInt .i64 a1)), (2, (eInt .i64 m2)), (3, (eInt .i64 b3)), (4, (.fn (.func cmp4_f) cmp4_a cmp4_c))] ?_
    exact E_done (thenA_normal (⟨rfl, data0, .eq (by kernel_rfl), hO, hN, h0⟩))
  refine C_sq ?_
  refine C_rg ttOk 4 ?_
  refine R_al ?_
  refine E_tn [(0, (.msl 2 lo0p 0 (List.length data0))), (1, (eInt .i64 a1)), (2, (eInt .i64 m2)), (3, (eInt .i64 b3)), (4, (.fn (.func cmp4_f) cmp4_a cmp4_c)), (28, (eBool (decide ((IntKind.i64.wrap (m2 - a1)) = (1 : Int)))))] ?_
  refine C_cn (decide ((IntKind.i64.wrap (m2 - a1)) = (1 : Int))) (fun hc37 => ?_) (fun hc37 => ?_)
  · replace h0 := condT hc37 h0
    refine C_sq ?_
    refine C_rg ttOk 2 ?_
    refine R_al ?_
    refine E_tn [(0, (.msl 2 lo0p 0 (List.length data0))), (1, (eInt .i64 a1)), (3, (eInt .i64 b3)), (4, (.fn (.func cmp4_f) cmp4_a cmp4_c)), (10, (eInt .i64 m2))] ?_
    refine C_sq ?_
    refine C_rg ttOk 2 ?_
    refine R_al ?_
    refine E_tn [(0, (.msl 2 lo0p 0 (List.length data0))), (1, (eInt .i64 a1)), (4, (.fn (.func cmp4_f) cmp4_a cmp4_c)), (10, (eInt .i64 m2)), (11, (eInt .i64 b3))] ?_
    refine C_seqJ (by kernel_rfl) (fun T H => ∃ data0 : List api_Jump, ∃ i10 : Int, Has T [(0, (.msl 2 lo0p 0 (List.length data0))), (1, (eInt .i64 a1)), (10, (eInt .i64 i10))] ∧ Owns ⟨H0, [lo0p], []⟩ H [(lo0p, 2, List.map e_api_Jump data0)] ∧ List.length data0 = N0 ∧ slices_symMergeCmpFunc_api_Jump_j12 cmp4 rec data0 a1 i10 = some r) ?_ ?_
    · clear hO hN h0
      rintro T H ⟨data0, i10, hT, hO, hN, h0⟩
      refine C_has hT ?_
      clear hT
      unfold slices_symMergeCmpFunc_api_Jump_j12 at h0
      refine C_seqJ (by kernel_rfl) (fun T H => ∃ data0 : List api_Jump, Has T [(0, (.msl 2 lo0p 0 (List.length data0)))] ∧ Owns ⟨H0, [lo0p], []⟩ H [(lo0p, 2, List.map e_api_Jump data0)] ∧ List.length data0 = N0 ∧ slices_symMergeCmpFunc_api_Jump_j13 cmp4 rec data0 = some r) ?_ ?_
      · clear hO hN h0
        rintro T H ⟨data0, hT, hO, hN, h0⟩
        refine C_has hT ?_
        clear hT
        unfold slices_symMergeCmpFunc_api_Jump_j13 at h0
        refine C_rt ?_
        refine E_hk [(0, (.msl 2 lo0p 0 (List.length data0)))] ?_
        obtain rfl := Option.some.inj h0
        exact E_done (thenA_ret (Q_ret (x := (.tup [])) (by kernel_rfl) (SubV.refl _) ⟨rfl, hO.ext, hO.at 0 (by kernel_rfl), by simp only [List.length_map]; exact hN.trans hN0⟩))
      refine C_sq ?_
      refine C_rg ttOk 2 ?_
      refine R_al ?_
      refine E_tn [(0, (.msl 2 lo0p 0 (List.length data0))), (10, (eInt .i64 i10)), (13, (eInt .i64 a1))] ?_
      refine C_bk 2 ?_
      refine C_hk [(0, (.msl 2 lo0p 0 (List.length data0))), (10, (eInt .i64 i10)), (13, (eInt .i64 a1))] ?_
      refine C_cut (fun T H => ∃ data0 : List api_Jump, ∃ k13 : Int, Has T [(0, (.msl 2 lo0p 0 (List.length data0))), (10, (eInt .i64 i10)), (13, (eInt .i64 k13))] ∧ Owns ⟨H0, [lo0p], []⟩ H [(lo0p, 2, List.map e_api_Jump data0)] ∧ List.length data0 = N0 ∧ slices_symMergeCmpFunc_api_Jump_h14 cmp4 rec data0 i10 k13 = some r) ?_ ⟨data0, a1, .eq (by kernel_rfl), hO, hN, h0⟩
      clear hO hN h0
      rintro T H ⟨data0, k13, hT, hO, hN, h0⟩
      refine C_has hT ?_
      clear hT
      unfold slices_symMergeCmpFunc_api_Jump_h14 at h0
      obtain ⟨rr0, hl0, h0⟩ := bindE h0
      refine C_loopS (by kernel_rfl) (fun (s : List api_Jump × Int) T H => Has T [(0, (.msl 2 lo0p 0 (List.length s.1))), (10, (eInt .i64 i10)), (13, (eInt .i64 s.2))] ∧ Owns ⟨H0, [lo0p], []⟩ H [(lo0p, 2, List.map e_api_Jump s.1)] ∧ List.length s.1 = N0) hl0 ⟨.eq (by kernel_rfl), hO, hN⟩ ?_
      clear hO hN
      rintro k0 s out1 T H ⟨hT, hO, hN⟩ h1 ho0
      obtain ⟨data0, k13⟩ := s
      replace h1 : slices_symMergeCmpFunc_api_Jump_l14 cmp4 rec i10 data0 k13 = some out1 := h1
      refine C_has (l := [(0, (.msl 2 lo0p 0 (List.length data0))), (10, (eInt .i64 i10)), (13, (eInt .i64 k13))]) hT ?_
      clear hT
      unfold slices_symMergeCmpFunc_api_Jump_l14 at h1
      refine C_sq ?_
      refine C_sq ?_
      refine C_rg ttOk 4 ?_
      refine R_al ?_
      refine E_tn [(0, (.msl 2 lo0p 0 (List.length data0))), (10, (eInt .i64 i10)), (13, (eInt .i64 k13)), (58, (eBool (decide (k13 < (IntKind.i64.wrap (i10 - (1 : Int)))))))] ?_
      refine C_cn (decide (k13 < (IntKind.i64.wrap (i10 - (1 : Int))))) (fun hc38 => ?_) (fun hc38 => ?_)
      · replace h1 := condT hc38 h1
        refine C_sk ?_
        refine E_tn [(0, (.msl 2 lo0p 0 (List.length data0))), (10, (eInt .i64 i10)), (13, (eInt .i64 k13))] ?_
        refine C_sq ?_
        refine C_bk 3 ?_
        refine A_cl (C_draw (pl := plOf []) ttOk (by kernel_rfl) (n := 18) (by kernel_rfl) (by kernel_rfl) (by kernel_rfl) ?_)
        obtain ⟨c39, h1⟩ := asrtE h1
        refine D_pure 9 (by kernel_rfl) (Ds := [0 ≤ (IntKind.i64.wrap (k13 + (1 : Int))) ∧ (IntKind.i64.wrap (k13 + (1 : Int))) < ((List.length data0 : Nat) : Int)]) (by kernel_rfl) ⟨c39, trivial⟩ ?_
        refine D_loadO 0 lo0p 2 (0 + Int.toNat (IntKind.i64.wrap (k13 + (1 : Int)))) (e_api_Jump (List.getD data0 (Int.toNat (IntKind.i64.wrap (k13 + (1 : Int)))) default)) (e_api_Jump (List.getD data0 (Int.toNat (IntKind.i64.wrap (k13 + (1 : Int)))) default)) (List.map e_api_Jump data0) (by kernel_rfl) (by kernel_rfl) (by kernel_rfl) (by kernel_rfl) hO (by kernel_rfl) (ownGet c39) ?_
        obtain ⟨c40, h1⟩ := asrtE h1
        refine D_pure 13 (by kernel_rfl) (Ds := [0 ≤ k13 ∧ k13 < ((List.length data0 : Nat) : Int)]) (by kernel_rfl) ⟨c40, trivial⟩ ?_
        refine D_loadO 0 lo0p 2 (0 + Int.toNat k13) (e_api_Jump (List.getD data0 (Int.toNat k13) default)) (e_api_Jump (List.getD data0 (Int.toNat k13) default)) (List.map e_api_Jump data0) (by kernel_rfl) (by kernel_rfl) (by kernel_rfl) (by kernel_rfl) hO (by kernel_rfl) (ownGet c40) ?_
        obtain ⟨c41, h1⟩ := asrtE h1
        refine D_pure 15 (by kernel_rfl) (Ds := [0 ≤ k13 ∧ k13 < ((List.length data0 : Nat) : Int)]) (by kernel_rfl) ⟨c41, trivial⟩ ?_
        refine D_storeO 0 lo0p 2 (0 + Int.toNat k13) (e_api_Jump (List.getD data0 (Int.toNat k13) default)) (e_api_Jump (List.getD data0 (Int.toNat (IntKind.i64.wrap (k13 + (1 : Int)))) default)) (List.map e_api_Jump data0) [(lo0p, 2, List.map e_api_Jump (List.set data0 (Int.toNat k13) (List.getD data0 (Int.toNat (IntKind.i64.wrap (k13 + (1 : Int)))) default)))] (by kernel_rfl) (by kernel_rfl) (by kernel_rfl) hO (by kernel_rfl) (ownGet c41) (by simp only [List.set, ownSet]) ?_
        intro H hO
        replace hN : List.length (List.set data0 (Int.toNat k13) (List.getD data0 (Int.toNat (IntKind.i64.wrap (k13 + (1 : Int)))) default)) = N0 := by simpa using hN
        obtain ⟨c42, h1⟩ := asrtE h1
        refine D_pure 17 (by kernel_rfl) (Ds := [0 ≤ (IntKind.i64.wrap (k13 + (1 : Int))) ∧ (IntKind.i64.wrap (k13 + (1 : Int))) < ((List.length data0 : Nat) : Int)]) (by kernel_rfl) ⟨c42, trivial⟩ ?_
        refine D_storeO 0 lo0p 2 (0 + Int.toNat (IntKind.i64.wrap (k13 + (1 : Int)))) (e_api_Jump (List.getD (List.set data0 (Int.toNat k13) (List.getD data0 (Int.toNat (IntKind.i64.wrap (k13 + (1 : Int)))) default)) (Int.toNat (IntKind.i64.wrap (k13 + (1 : Int)))) default)) (e_api_Jump (List.getD data0 (Int.toNat k13) default)) (List.map e_api_Jump (List.set data0 (Int.toNat k13) (List.getD data0 (Int.toNat (IntKind.i64.wrap (k13 + (1 : Int)))) default))) [(lo0p, 2, List.map e_api_Jump (List.set (List.set data0 (Int.toNat k13) (List.getD data0 (Int.toNat (IntKind.i64.wrap (k13 + (1 : Int)))) default)) (Int.toNat (IntKind.i64.wrap (k13 + (1 : Int)))) (List.getD data0 (Int.toNat k13) default)))] (by kernel_rfl) (by kernel_rfl) (by kernel_rfl) hO (by kernel_rfl) (ownGetN c42 (by simp [])) (by simp only [List.set, ownSet]) ?_
        intro H hO
        replace hN : List.length (List.set (List.set data0 (Int.toNat k13) (List.getD data0 (Int.toNat (IntKind.i64.wrap (k13 + (1 : Int)))) default)) (Int.toNat (IntKind.i64.wrap (k13 + (1 : Int)))) (List.getD data0 (Int.toNat k13) default)) = N0 := by simpa using hN
        refine D_end (by kernel_rfl) ?_
        refine E_has (l := [(0, (.msl 2 lo0p 0 (List.length (List.set (List.set data0 (Int.toNat k13) (List.getD data0 (Int.toNat (IntKind.i64.wrap (k13 + (1 : Int)))) default)) (Int.toNat (IntKind.i64.wrap (k13 + (1 : Int)))) (List.getD data0 (Int.toNat k13) default))))), (10, (eInt .i64 i10)), (13, (eInt .i64 k13))]) ⟨[(0, (.msl 2 lo0p 0 (List.length data0))), (10, (eInt .i64 i10)), (13, (eInt .i64 k13))], by kernel_rfl, rfl, ⟨SubV.eq (by simp []), SubV.refl _, SubV.refl _, trivial⟩⟩ ?_
        refine E_done (blockA_normal (thenA_normal (?_)))
        refine C_rg ttOk 3 ?_
        refine R_al ?_
        refine E_hk [(0, (.msl 2 lo0p 0 (List.length (List.set (List.set data0 (Int.toNat k13) (List.getD data0 (Int.toNat (IntKind.i64.wrap (k13 + (1 : Int)))) default)) (Int.toNat (IntKind.i64.wrap (k13 + (1 : Int)))) (List.getD data0 (Int.toNat k13) default))))), (10, (eInt .i64 i10)), (13, (eInt .i64 (IntKind.i64.wrap (k13 + (1 : Int)))))] ?_
        exact E_done (thenA_normal (⟨rfl, (List.set (List.set data0 (Int.toNat k13) (List.getD data0 (Int.toNat (IntKind.i64.wrap (k13 + (1 : Int)))) default)) (Int.toNat (IntKind.i64.wrap (k13 + (1 : Int)))) (List.getD data0 (Int.toNat k13) default), IntKind.i64.wrap (k13 + (1 : Int))), (Option.some.inj h1).symm, .eq (by kernel_rfl), hO, hN⟩))
      replace h1 := condF hc38 h1
      refine C_ex 2 ?_
      refine E_hk [(0, (.msl 2 lo0p 0 (List.length data0)))] ?_
      obtain rfl := Option.some.inj h1
      obtain rfl : _ = rr0 := ho0
      replace h0 : slices_symMergeCmpFunc_api_Jump_j13 cmp4 rec data0 = some r := h0
      exact E_done (thenA_exit (thenA_exit (blockA_hit (thenA_normal (⟨rfl, data0, .eq (by kernel_rfl), hO, hN, h0⟩)))))
    refine C_bk 0 ?_
    refine C_hk [(0, (.msl 2 lo0p 0 (List.length data0))), (1, (eInt .i64 a1)), (4, (.fn (.func cmp4_f) cmp4_a cmp4_c)), (10, (eInt .i64 m2)), (11, (eInt .i64 b3))] ?_
    refine C_cut (fun T H => ∃ data0 : List api_Jump, ∃ i10 : Int, ∃ j11 : Int, Has T [(0, (.msl 2 lo0p 0 (List.length data0))), (1, (eInt .i64 a1)), (4, (.fn (.func cmp4_f) cmp4_a cmp4_c)), (10, (eInt .i64 i10)), (11, (eInt .i64 j11))] ∧ Owns ⟨H0, [lo0p], []⟩ H [(lo0p, 2, List.map e_api_Jump data0)] ∧ List.length data0 = N0 ∧ slices_symMergeCmpFunc_api_Jump_h15 cmp4 rec data0 a1 i10 j11 = some r) ?_ ⟨data0, m2, b3, .eq (by kernel_rfl), hO, hN, h0⟩
    clear hO hN h0
    rintro T H ⟨data0, i10, j11, hT, hO, hN, h0⟩
    refine C_has hT ?_
    clear hT
    unfold slices_symMergeCmpFunc_api_Jump_h15 at h0
    obtain ⟨rr0, hl0, h0⟩ := bindE h0
    refine C_loopS (by kernel_rfl) (fun (s : List api_Jump × Int × Int) T H => Has T [(0, (.msl 2 lo0p 0 (List.length s.1))), (1, (eInt .i64 a1)), (4, (.fn (.func cmp4_f) cmp4_a cmp4_c)), (10, (eInt .i64 s.2.1)), (11, (eInt .i64 s.2.2))] ∧ Owns ⟨H0, [lo0p], []⟩ H [(lo0p, 2, List.map e_api_Jump s.1)] ∧ List.length s.1 = N0) hl0 ⟨.eq (by kernel_rfl), hO, hN⟩ ?_
    clear hO hN
    rintro k0 s out1 T H ⟨hT, hO, hN⟩ h1 ho0
    obtain ⟨data0, i10, j11⟩ := s
    replace h1 : slices_symMergeCmpFunc_api_Jump_l15 cmp4 rec a1 data0 i10 j11 = some out1 := h1
    refine C_has (l := [(0, (.msl 2 lo0p 0 (List.length data0))), (1, (eInt .i64 a1)), (4, (.fn (.func cmp4_f) cmp4_a cmp4_c)), (10, (eInt .i64 i10)), (11, (eInt .i64 j11))]) hT ?_
    clear hT
    unfold slices_symMergeCmpFunc_api_Jump_l15 at h1
    refine C_sq ?_
    refine C_sq ?_
    refine C_rg ttOk 3 ?_
    refine R_al ?_
    refine E_tn [(0, (.msl 2 lo0p 0 (List.length data0))), (1, (eInt .i64 a1)), (4, (.fn (.func cmp4_f) cmp4_a cmp4_c)), (10, (eInt .i64 i10)), (11, (eInt .i64 j11)), (33, (eBool (decide (i10 < j11))))] ?_
    refine C_cn (decide (i10 < j11)) (fun hc43 => ?_) (fun hc43 => ?_)
    · replace h1 := condT hc43 h1
      refine C_sk ?_
      refine E_tn [(0, (.msl 2 lo0p 0 (List.length data0))), (1, (eInt .i64 a1)), (4, (.fn (.func cmp4_f) cmp4_a cmp4_c)), (10, (eInt .i64 i10)), (11, (eInt .i64 j11))] ?_
      refine C_bk 1 ?_
      refine C_sq ?_
      refine C_rg ttOk 7 ?_
      obtain ⟨c44, h1⟩ := asrtE h1
      refine R_all (Ds := [0 ≤ (1 : Int)]) (by kernel_rfl) ⟨c44, trivial⟩ ?_
      refine E_tn [(0, (.msl 2 lo0p 0 (List.length data0))), (1, (eInt .i64 a1)), (4, (.fn (.func cmp4_f) cmp4_a cmp4_c)), (10, (eInt .i64 i10)), (11, (eInt .i64 j11)), (12, (eInt .i64 (IntKind.i64.wrap (Int.fdiv (IntKind.u64.wrap (IntKind.i64.wrap (i10 + j11))) (2 ^ (min (Int.toNat (1 : Int)) 64))))))] ?_
      refine C_sq ?_
      refine A_cl (C_draw (pl := plOf []) ttOk (by kernel_rfl) (n := 11) (by kernel_rfl) (by kernel_rfl) (by kernel_rfl) ?_)
      obtain ⟨c45, h1⟩ := asrtE h1
      refine D_pure 4 (by kernel_rfl) (Ds := [0 ≤ (IntKind.i64.wrap (Int.fdiv (IntKind.u64.wrap (IntKind.i64.wrap (i10 + j11))) (2 ^ (min (Int.toNat (1 : Int)) 64)))) ∧ (IntKind.i64.wrap (Int.fdiv (IntKind.u64.wrap (IntKind.i64.wrap (i10 + j11))) (2 ^ (min (Int.toNat (1 : Int)) 64)))) < ((List.length data0 : Nat) : Int)]) (by kernel_rfl) ⟨c45, trivial⟩ ?_
      refine D_loadO 0 lo0p 2 (0 + Int.toNat (IntKind.i64.wrap (Int.fdiv (IntKind.u64.wrap (IntKind.i64.wrap (i10 + j11))) (2 ^ (min (Int.toNat (1 : Int)) 64))))) (e_api_Jump (List.getD data0 (Int.toNat (IntKind.i64.wrap (Int.fdiv (IntKind.u64.wrap (IntKind.i64.wrap (i10 + j11))) (2 ^ (min (Int.toNat (1 : Int)) 64))))) default)) (e_api_Jump (List.getD data0 (Int.toNat (IntKind.i64.wrap (Int.fdiv (IntKind.u64.wrap (IntKind.i64.wrap (i10 + j11))) (2 ^ (min (Int.toNat (1 : Int)) 64))))) default)) (List.map e_api_Jump data0) (by kernel_rfl) (by kernel_rfl) (by kernel_rfl) (by kernel_rfl) hO (by kernel_rfl) (ownGet c45) ?_
      obtain ⟨c46, h1⟩ := asrtE h1
      refine D_pure 8 (by kernel_rfl) (Ds := [0 ≤ a1 ∧ a1 < ((List.length data0 : Nat) : Int)]) (by kernel_rfl) ⟨c46, trivial⟩ ?_
      refine D_loadO 0 lo0p 2 (0 + Int.toNat a1) (e_api_Jump (List.getD data0 (Int.toNat a1) default)) (e_api_Jump (List.getD data0 (Int.toNat a1) default)) (List.map e_api_Jump data0) (by kernel_rfl) (by kernel_rfl) (by kernel_rfl) (by kernel_rfl) hO (by kernel_rfl) (ownGet c46) ?_
      obtain ⟨x47, hx48, h1⟩ := bindE h1
      refine D_callO cmp4_f (cmp4_a ++ [(e_api_Jump (List.getD data0 (Int.toNat (IntKind.i64.wrap (Int.fdiv (IntKind.u64.wrap (IntKind.i64.wrap (i10 + j11))) (2 ^ (min (Int.toNat (1 : Int)) 64))))) default)), (e_api_Jump (List.getD data0 (Int.toNat a1) default))] ++ cmp4_c) (eInt .i64 x47) (by kernel_rfl) (by kernel_rfl) (cmp4_h (List.getD data0 (Int.toNat (IntKind.i64.wrap (Int.fdiv (IntKind.u64.wrap (IntKind.i64.wrap (i10 + j11))) (2 ^ (min (Int.toNat (1 : Int)) 64))))) default) (List.getD data0 (Int.toNat a1) default) _ hx48) hO ?_
      intro H hO
      refine D_al ?_
      refine E_tn [(0, (.msl 2 lo0p 0 (List.length data0))), (1, (eInt .i64 a1)), (4, (.fn (.func cmp4_f) cmp4_a cmp4_c)), (10, (eInt .i64 i10)), (11, (eInt .i64 j11)), (12, (eInt .i64 (IntKind.i64.wrap (Int.fdiv (IntKind.u64.wrap (IntKind.i64.wrap (i10 + j11))) (2 ^ (min (Int.toNat (1 : Int)) 64)))))), (50, (eBool (decide (x47 < (0 : Int)))))] ?_
      refine C_cn (decide (x47 < (0 : Int))) (fun hc50 => ?_) (fun hc50 => ?_)
      · replace h1 := condT hc50 h1
        refine C_rg ttOk 3 ?_
        refine R_al ?_
        refine E_hk [(0, (.msl 2 lo0p 0 (List.length data0))), (1, (eInt .i64 a1)), (4, (.fn (.func cmp4_f) cmp4_a cmp4_c)), (10, (eInt .i64 (IntKind.i64.wrap ((IntKind.i64.wrap (Int.fdiv (IntKind.u64.wrap (IntKind.i64.wrap (i10 + j11))) (2 ^ (min (Int.toNat (1 : Int)) 64)))) + (1 : Int))))), (11, (eInt .i64 j11))] ?_
        exact E_done (blockA_normal (thenA_normal (⟨rfl, (data0, IntKind.i64.wrap ((IntKind.i64.wrap (Int.fdiv (IntKind.u64.wrap (IntKind.i64.wrap (i10 + j11))) (2 ^ (min (Int.toNat (1 : Int)) 64)))) + (1 : Int)), j11), (Option.some.inj h1).symm, .eq (by kernel_rfl), hO, hN⟩)))
      replace h1 := condF hc50 h1
      refine C_rg ttOk 2 ?_
      refine R_al ?_
      refine E_hk [(0, (.msl 2 lo0p 0 (List.length data0))), (1, (eInt .i64 a1)), (4, (.fn (.func cmp4_f) cmp4_a cmp4_c)), (10, (eInt .i64 i10)), (11, (eInt .i64 (IntKind.i64.wrap (Int.fdiv (IntKind.u64.wrap (IntKind.i64.wrap (i10 + j11))) (2 ^ (min (Int.toNat (1 : Int)) 64))))))] ?_
      exact E_done (blockA_normal (thenA_normal (⟨rfl, (data0, i10, IntKind.i64.wrap (Int.fdiv (IntKind.u64.wrap (IntKind.i64.wrap (i10 + j11))) (2 ^ (min (Int.toNat (1 : Int)) 64)))), (Option.some.inj h1).symm, .eq (by kernel_rfl), hO, hN⟩)))
    replace h1 := condF hc43 h1
    refine C_ex 0 ?_
    refine E_hk [(0, (.msl 2 lo0p 0 (List.length data0))), (1, (eInt .i64 a1)), (10, (eInt .i64 i10))] ?_
    obtain rfl := Option.some.inj h1
    obtain rfl : _ = rr0 := ho0
    replace h0 : slices_symMergeCmpFunc_api_Jump_j12 cmp4 rec data0 a1 i10 = some r := h0
    exact E_done (thenA_exit (thenA_exit (blockA_hit (thenA_normal (⟨rfl, data0, i10, .eq (by kernel_rfl), hO, hN, h0⟩)))))
  replace h0 := condF hc37 h0
  refine C_sk ?_
  refine E_hk [(0, (.msl 2 lo0p 0 (List.length data0))), (1, (eInt .i64 a1)), (2, (eInt .i64 m2)), (3, (eInt .i64 b3)), (4, (.fn (.func cmp4_f) cmp4_a cmp4_c))] ?_
  exact E_done (thenA_normal (⟨rfl, data0, .eq (by kernel_rfl), hO, hN, h0⟩))

theorem w_slices_symMergeCmpFunc_api_Jump_at (cmp4_f : Nat) (cmp4_a cmp4_c : List V) (cmp4 : api_Jump → api_Jump → Option Int) (cmp4_h : ∀ a0 a1 r, cmp4 a0 a1 = some r → Fine Try.prog cmp4_f (cmp4_a ++ [(e_api_Jump a0), (e_api_Jump a1)] ++ cmp4_c) (eInt .i64 r)) : ∀ (k : Nat) (lo0p : Nat) (data0 : (List api_Jump)) (a1 : Int) (m2 : Int) (b3 : Int) (r : List api_Jump), slices_symMergeCmpFunc_api_Jump_at cmp4 k data0 a1 m2 b3 = some r → FineI Try.prog 122 lo0p 2 (List.map e_api_Jump data0) (List.map e_api_Jump r) [(.msl 2 lo0p 0 (List.length data0)), (eInt .i64 a1), (eInt .i64 m2), (eInt .i64 b3), (.fn (.func cmp4_f) cmp4_a cmp4_c)] (.tup [])
  | 0, _, _, _, _, _, _, h => by cases h
  | k + 1, lo0p, data0, a1, m2, b3, r, h => w_slices_symMergeCmpFunc_api_Jump_step cmp4_f cmp4_a cmp4_c cmp4 cmp4_h _ (w_slices_symMergeCmpFunc_api_Jump_at cmp4_f cmp4_a cmp4_c cmp4 cmp4_h k) lo0p data0 a1 m2 b3 r h

theorem w_slices_symMergeCmpFunc_api_Jump (lo0p : Nat) (data0 : (List api_Jump)) (a1 : Int) (m2 : Int) (b3 : Int) (cmp4_f : Nat) (cmp4_a cmp4_c : List V) (cmp4 : api_Jump → api_Jump → Option Int) (cmp4_h : ∀ a0 a1 r, cmp4 a0 a1 = some r → Fine Try.prog cmp4_f (cmp4_a ++ [(e_api_Jump a0), (e_api_Jump a1)] ++ cmp4_c) (eInt .i64 r)) (r : List api_Jump) (h0 : s_slices_symMergeCmpFunc_api_Jump data0 a1 m2 b3 cmp4 = some r) : FineI Try.prog 122 lo0p 2 (List.map e_api_Jump data0) (List.map e_api_Jump r) [(.msl 2 lo0p 0 (List.length data0)), (eInt .i64 a1), (eInt .i64 m2), (eInt .i64 b3), (.fn (.func cmp4_f) cmp4_a cmp4_c)] (.tup []) := by
  obtain ⟨k, hk⟩ := fixN_some h0
  exact w_slices_symMergeCmpFunc_api_Jump_at cmp4_f cmp4_a cmp4_c cmp4 cmp4_h k lo0p data0 a1 m2 b3 r hk

end Go.Abs
namespace Go.Abs
open Go Go.RowKit Go.Proofs
theorem w_slices_stableCmpFunc_api_Jump (lo0p : Nat) (data0 : (List api_Jump)) (n1 : Int) (cmp2_f : Nat) (cmp2_a cmp2_c : List V) (cmp2 : api_Jump → api_Jump → Option Int) (cmp2_h : ∀ a0 a1 r, cmp2 a0 a1 = some r → Fine Try.prog cmp2_f (cmp2_a ++ [(e_api_Jump a0), (e_api_Jump a1)] ++ cmp2_c) (eInt .i64 r)) (r : List api_Jump) (h0 : s_slices_stableCmpFunc_api_Jump data0 n1 cmp2 = some r) : FineI Try.prog 117 lo0p 2 (List.map e_api_Jump data0) (List.map e_api_Jump r) [(.msl 2 lo0p 0 (List.length data0)), (eInt .i64 n1), (.fn (.func cmp2_f) cmp2_a cmp2_c)] (.tup []) := by
  intro H0 hl0
  refine F_walk Try.func117 (by kernel_rfl) (by kernel_rfl) (by kernel_rfl) ?_
  have hO := Owns.start1 hl0
  clear hl0
  obtain ⟨N0, hN0⟩ : ∃ n, n = List.length data0 := ⟨_, rfl⟩
  have hN : List.length data0 = N0 := hN0.symm
  unfold s_slices_stableCmpFunc_api_Jump at h0
  refine C_sq ?_
  refine C_rg ttOk 1 ?_
  refine R_al ?_
  refine E_tn [(0, (.msl 2 lo0p 0 (List.length data0))), (1, (eInt .i64 n1)), (2, (.fn (.func cmp2_f) cmp2_a cmp2_c)), (6, (eInt .i64 (20 : Int)))] ?_
  refine C_sq ?_
  refine C_rg ttOk 3 ?_
  refine R_al ?_
  refine E_tn [(0, (.msl 2 lo0p 0 (List.length data0))), (1, (eInt .i64 n1)), (2, (.fn (.func cmp2_f) cmp2_a cmp2_c)), (6, (eInt .i64 (20 : Int))), (7, (eInt .i64 (0 : Int))), (8, (eInt .i64 (20 : Int)))] ?_
  refine C_seqJ (by kernel_rfl) (fun T H => ∃ data0 : List api_Jump, ∃ blockSize6 : Int, ∃ a7 : Int, Has T [(0, (.msl 2 lo0p 0 (List.length data0))), (1, (eInt .i64 n1)), (2, (.fn (.func cmp2_f) cmp2_a cmp2_c)), (6, (eInt .i64 blockSize6)), (7, (eInt .i64 a7))] ∧ Owns ⟨H0, [lo0p], []⟩ H [(lo0p, 2, List.map e_api_Jump data0)] ∧ List.length data0 = N0 ∧ slices_stableCmpFunc_api_Jump_j1 cmp2 data0 n1 blockSize6 a7 = some r) ?_ ?_
  · clear hO hN h0
    rintro T H ⟨data0, blockSize6, a7, hT, hO, hN, h0⟩
    refine C_has hT ?_
    clear hT
    unfold slices_stableCmpFunc_api_Jump_j1 at h0
    refine C_sq ?_
    refine C_rg ttOk 5 ?_
    refine R_pu 4 ?_
    obtain ⟨x1, hx2, h0⟩ := bindE h0
    refine R_callI (L' := [(lo0p, 2, List.map e_api_Jump x1)]) 0 lo0p 2 (List.map e_api_Jump data0) (List.map e_api_Jump x1) 121 [(.msl 2 lo0p 0 (List.length data0)), (eInt .i64 a7), (eInt .i64 n1), (.fn (.func cmp2_f) cmp2_a cmp2_c)] (.tup []) (by kernel_rfl) (by kernel_rfl) (w_slices_insertionSortCmpFunc_api_Jump lo0p data0 a7 n1 cmp2_f cmp2_a cmp2_c cmp2 cmp2_h _ hx2) hO (by kernel_rfl) (by kernel_rfl) ?_
    intro H hO hl3
    simp only [List.length_map] at hl3
    replace hN := hl3.trans hN
    refine R_en ?_
    refine E_has (l := [(0, (.msl 2 lo0p 0 (List.length x1))), (1, (eInt .i64 n1)), (2, (.fn (.func cmp2_f) cmp2_a cmp2_c)), (6, (eInt .i64 blockSize6))]) ⟨[(0, (.msl 2 lo0p 0 (List.length data0))), (1, (eInt .i64 n1)), (2, (.fn (.func cmp2_f) cmp2_a cmp2_c)), (6, (eInt .i64 blockSize6))], by kernel_rfl, rfl, ⟨SubV.eq (by simp [hl3]), SubV.refl _, SubV.refl _, SubV.refl _, trivial⟩⟩ ?_
    refine E_done (thenA_normal (?_))
    refine C_bk 2 ?_
    refine C_hk [(0, (.msl 2 lo0p 0 (List.length x1))), (1, (eInt .i64 n1)), (2, (.fn (.func cmp2_f) cmp2_a cmp2_c)), (6, (eInt .i64 blockSize6))] ?_
    refine C_cut (fun T H => ∃ data0 : List api_Jump, ∃ blockSize6 : Int, Has T [(0, (.msl 2 lo0p 0 (List.length data0))), (1, (eInt .i64 n1)), (2, (.fn (.func cmp2_f) cmp2_a cmp2_c)), (6, (eInt .i64 blockSize6))] ∧ Owns ⟨H0, [lo0p], []⟩ H [(lo0p, 2, List.map e_api_Jump data0)] ∧ List.length data0 = N0 ∧ slices_stableCmpFunc_api_Jump_h2 cmp2 data0 n1 blockSize6 = some r) ?_ ⟨x1, blockSize6, .eq (by kernel_rfl), hO, hN, h0⟩
    clear hO hN h0
    rintro T H ⟨data0, blockSize6, hT, hO, hN, h0⟩
    refine C_has hT ?_
    clear hT
    unfold slices_stableCmpFunc_api_Jump_h2 at h0
    obtain ⟨rr0, hl0, h0⟩ := bindE h0
    refine C_loopS (by kernel_rfl) (fun (s : List api_Jump × Int) T H => Has T [(0, (.msl 2 lo0p 0 (List.length s.1))), (1, (eInt .i64 n1)), (2, (.fn (.func cmp2_f) cmp2_a cmp2_c)), (6, (eInt .i64 s.2))] ∧ Owns ⟨H0, [lo0p], []⟩ H [(lo0p, 2, List.map e_api_Jump s.1)] ∧ List.length s.1 = N0) hl0 ⟨.eq (by kernel_rfl), hO, hN⟩ ?_
    clear hO hN
    rintro k0 s out1 T H ⟨hT, hO, hN⟩ h1 ho0
    obtain ⟨data0, blockSize6⟩ := s
    replace h1 : slices_stableCmpFunc_api_Jump_l2 cmp2 n1 data0 blockSize6 = some out1 := h1
    refine C_has (l := [(0, (.msl 2 lo0p 0 (List.length data0))), (1, (eInt .i64 n1)), (2, (.fn (.func cmp2_f) cmp2_a cmp2_c)), (6, (eInt .i64 blockSize6))]) hT ?_
    clear hT
    unfold slices_stableCmpFunc_api_Jump_l2 at h1
    refine C_sq ?_
    refine C_sq ?_
    refine C_rg ttOk 3 ?_
    refine R_al ?_
    refine E_tn [(0, (.msl 2 lo0p 0 (List.length data0))), (1, (eInt .i64 n1)), (2, (.fn (.func cmp2_f) cmp2_a cmp2_c)), (6, (eInt .i64 blockSize6)), (30, (eBool (decide (blockSize6 < n1))))] ?_
    refine C_cn (decide (blockSize6 < n1)) (fun hc4 => ?_) (fun hc4 => ?_)
    · replace h1 := condT hc4 h1
      refine C_sk ?_
      refine E_tn [(0, (.msl 2 lo0p 0 (List.length data0))), (1, (eInt .i64 n1)), (2, (.fn (.func cmp2_f) cmp2_a cmp2_c)), (6, (eInt .i64 blockSize6))] ?_
      refine C_bk 3 ?_
      refine C_sq ?_
      refine C_rg ttOk 4 ?_
      refine R_al ?_
      refine E_tn [(0, (.msl 2 lo0p 0 (List.length data0))), (1, (eInt .i64 n1)), (2, (.fn (.func cmp2_f) cmp2_a cmp2_c)), (6, (eInt .i64 blockSize6)), (7, (eInt .i64 (0 : Int))), (8, (eInt .i64 (IntKind.i64.wrap ((2 : Int) * blockSize6))))] ?_
      refine C_seqJ (by kernel_rfl) (fun T H => ∃ data0 : List api_Jump, ∃ a7 : Int, Has T [(0, (.msl 2 lo0p 0 (List.length data0))), (1, (eInt .i64 n1)), (2, (.fn (.func cmp2_f) cmp2_a cmp2_c)), (6, (eInt .i64 blockSize6)), (7, (eInt .i64 a7))] ∧ Owns ⟨H0, [lo0p], []⟩ H [(lo0p, 2, List.map e_api_Jump data0)] ∧ List.length data0 = N0 ∧ slices_stableCmpFunc_api_Jump_j3 cmp2 data0 n1 blockSize6 a7 = some out1) ?_ ?_
      · clear hO hN h1
        rintro T H ⟨data0, a7, hT, hO, hN, h1⟩
        refine C_has hT ?_
        clear hT
        unfold slices_stableCmpFunc_api_Jump_j3 at h1
        refine C_seqJ (by kernel_rfl) (fun T H => ∃ data0 : List api_Jump, Has T [(0, (.msl 2 lo0p 0 (List.length data0))), (1, (eInt .i64 n1)), (2, (.fn (.func cmp2_f) cmp2_a cmp2_c)), (6, (eInt .i64 blockSize6))] ∧ Owns ⟨H0, [lo0p], []⟩ H [(lo0p, 2, List.map e_api_Jump data0)] ∧ List.length data0 = N0 ∧ slices_stableCmpFunc_api_Jump_j4 cmp2 data0 n1 blockSize6 = some out1) ?_ ?_
        · clear hO hN h1
          rintro T H ⟨data0, hT, hO, hN, h1⟩
          refine C_has hT ?_
          clear hT
          unfold slices_stableCmpFunc_api_Jump_j4 at h1
          refine C_rg ttOk 3 ?_
          refine R_al ?_
          refine E_hk [(0, (.msl 2 lo0p 0 (List.length data0))), (1, (eInt .i64 n1)), (2, (.fn (.func cmp2_f) cmp2_a cmp2_c)), (6, (eInt .i64 (IntKind.i64.wrap (blockSize6 * (2 : Int)))))] ?_
          exact E_done (blockA_normal (thenA_normal (⟨rfl, (data0, IntKind.i64.wrap (blockSize6 * (2 : Int))), (Option.some.inj h1).symm, .eq (by kernel_rfl), hO, hN⟩)))
        refine C_sq ?_
        refine C_rg ttOk 4 ?_
        refine R_al ?_
        refine E_tn [(0, (.msl 2 lo0p 0 (List.length data0))), (1, (eInt .i64 n1)), (2, (.fn (.func cmp2_f) cmp2_a cmp2_c)), (6, (eInt .i64 blockSize6)), (7, (eInt .i64 a7)), (9, (eInt .i64 (IntKind.i64.wrap (a7 + blockSize6))))] ?_
        refine C_sq ?_
        refine C_rg ttOk 3 ?_
        refine R_al ?_
        refine E_tn [(0, (.msl 2 lo0p 0 (List.length data0))), (1, (eInt .i64 n1)), (2, (.fn (.func cmp2_f) cmp2_a cmp2_c)), (6, (eInt .i64 blockSize6)), (7, (eInt .i64 a7)), (9, (eInt .i64 (IntKind.i64.wrap (a7 + blockSize6)))), (54, (eBool (decide ((IntKind.i64.wrap (a7 + blockSize6)) < n1))))] ?_
        refine C_cn (decide ((IntKind.i64.wrap (a7 + blockSize6)) < n1)) (fun hc5 => ?_) (fun hc5 => ?_)
        · replace h1 := condT hc5 h1
          refine C_rg ttOk 6 ?_
          refine R_pu 5 ?_
          obtain ⟨x6, hx7, h1⟩ := bindE h1
          refine R_callI (L' := [(lo0p, 2, List.map e_api_Jump x6)]) 0 lo0p 2 (List.map e_api_Jump data0) (List.map e_api_Jump x6) 122 [(.msl 2 lo0p 0 (List.length data0)), (eInt .i64 a7), (eInt .i64 (IntKind.i64.wrap (a7 + blockSize6))), (eInt .i64 n1), (.fn (.func cmp2_f) cmp2_a cmp2_c)] (.tup []) (by kernel_rfl) (by kernel_rfl) (w_slices_symMergeCmpFunc_api_Jump lo0p data0 a7 (IntKind.i64.wrap (a7 + blockSize6)) n1 cmp2_f cmp2_a cmp2_c cmp2 cmp2_h _ hx7) hO (by kernel_rfl) (by kernel_rfl) ?_
          intro H hO hl8
          simp only [List.length_map] at hl8
          replace hN := hl8.trans hN
          refine R_en ?_
          refine E_has (l := [(0, (.msl 2 lo0p 0 (List.length x6))), (1, (eInt .i64 n1)), (2, (.fn (.func cmp2_f) cmp2_a cmp2_c)), (6, (eInt .i64 blockSize6))]) ⟨[(0, (.msl 2 lo0p 0 (List.length data0))), (1, (eInt .i64 n1)), (2, (.fn (.func cmp2_f) cmp2_a cmp2_c)), (6, (eInt .i64 blockSize6))], by kernel_rfl, rfl, ⟨SubV.eq (by simp [hl8]), SubV.refl _, SubV.refl _, SubV.refl _, trivial⟩⟩ ?_
          exact E_done (thenA_normal (⟨rfl, x6, .eq (by kernel_rfl), hO, hN, h1⟩))
        replace h1 := condF hc5 h1
        refine C_sk ?_
        refine E_hk [(0, (.msl 2 lo0p 0 (List.length data0))), (1, (eInt .i64 n1)), (2, (.fn (.func cmp2_f) cmp2_a cmp2_c)), (6, (eInt .i64 blockSize6))] ?_
        exact E_done (thenA_normal (⟨rfl, data0, .eq (by kernel_rfl), hO, hN, h1⟩))
      refine C_bk 4 ?_
      refine C_hk [(0, (.msl 2 lo0p 0 (List.length data0))), (1, (eInt .i64 n1)), (2, (.fn (.func cmp2_f) cmp2_a cmp2_c)), (6, (eInt .i64 blockSize6)), (7, (eInt .i64 (0 : Int))), (8, (eInt .i64 (IntKind.i64.wrap ((2 : Int) * blockSize6))))] ?_
      refine C_cut (fun T H => ∃ data0 : List api_Jump, ∃ a7 : Int, ∃ b8 : Int, Has T [(0, (.msl 2 lo0p 0 (List.length data0))), (1, (eInt .i64 n1)), (2, (.fn (.func cmp2_f) cmp2_a cmp2_c)), (6, (eInt .i64 blockSize6)), (7, (eInt .i64 a7)), (8, (eInt .i64 b8))] ∧ Owns ⟨H0, [lo0p], []⟩ H [(lo0p, 2, List.map e_api_Jump data0)] ∧ List.length data0 = N0 ∧ slices_stableCmpFunc_api_Jump_h5 cmp2 data0 n1 blockSize6 a7 b8 = some out1) ?_ ⟨data0, (0 : Int), IntKind.i64.wrap ((2 : Int) * blockSize6), .eq (by kernel_rfl), hO, hN, h1⟩
      clear hO hN h1
      rintro T H ⟨data0, a7, b8, hT, hO, hN, h1⟩
      refine C_has hT ?_
      clear hT
      unfold slices_stableCmpFunc_api_Jump_h5 at h1
      obtain ⟨rr1, hl1, h1⟩ := bindE h1
      refine C_loopS (by kernel_rfl) (fun (s : List api_Jump × Int × Int) T H => Has T [(0, (.msl 2 lo0p 0 (List.length s.1))), (1, (eInt .i64 n1)), (2, (.fn (.func cmp2_f) cmp2_a cmp2_c)), (6, (eInt .i64 blockSize6)), (7, (eInt .i64 s.2.1)), (8, (eInt .i64 s.2.2))] ∧ Owns ⟨H0, [lo0p], []⟩ H [(lo0p, 2, List.map e_api_Jump s.1)] ∧ List.length s.1 = N0) hl1 ⟨.eq (by kernel_rfl), hO, hN⟩ ?_
      clear hO hN
      rintro k1 s out2 T H ⟨hT, hO, hN⟩ h2 ho1
      obtain ⟨data0, a7, b8⟩ := s
      replace h2 : slices_stableCmpFunc_api_Jump_l5 cmp2 n1 blockSize6 data0 a7 b8 = some out2 := h2
      refine C_has (l := [(0, (.msl 2 lo0p 0 (List.length data0))), (1, (eInt .i64 n1)), (2, (.fn (.func cmp2_f) cmp2_a cmp2_c)), (6, (eInt .i64 blockSize6)), (7, (eInt .i64 a7)), (8, (eInt .i64 b8))]) hT ?_
      clear hT
      unfold slices_stableCmpFunc_api_Jump_l5 at h2
      refine C_sq ?_
      refine C_sq ?_
      refine C_rg ttOk 3 ?_
      refine R_al ?_
      refine E_tn [(0, (.msl 2 lo0p 0 (List.length data0))), (1, (eInt .i64 n1)), (2, (.fn (.func cmp2_f) cmp2_a cmp2_c)), (6, (eInt .i64 blockSize6)), (7, (eInt .i64 a7)), (8, (eInt .i64 b8)), (35, (eBool (decide (b8 ≤ n1))))] ?_
      refine C_cn (decide (b8 ≤ n1)) (fun hc9 => ?_) (fun hc9 => ?_)
      · replace h2 := condT hc9 h2
        refine C_sk ?_
        refine E_tn [(0, (.msl 2 lo0p 0 (List.length data0))), (1, (eInt .i64 n1)), (2, (.fn (.func cmp2_f) cmp2_a cmp2_c)), (6, (eInt .i64 blockSize6)), (7, (eInt .i64 a7)), (8, (eInt .i64 b8))] ?_
        refine C_bk 5 ?_
        refine C_sq ?_
        refine C_rg ttOk 8 ?_
        refine R_pu 7 ?_
        obtain ⟨x10, hx11, h2⟩ := bindE h2
        refine R_callI (L' := [(lo0p, 2, List.map e_api_Jump x10)]) 0 lo0p 2 (List.map e_api_Jump data0) (List.map e_api_Jump x10) 122 [(.msl 2 lo0p 0 (List.length data0)), (eInt .i64 a7), (eInt .i64 (IntKind.i64.wrap (a7 + blockSize6))), (eInt .i64 b8), (.fn (.func cmp2_f) cmp2_a cmp2_c)] (.tup []) (by kernel_rfl) (by kernel_rfl) (w_slices_symMergeCmpFunc_api_Jump lo0p data0 a7 (IntKind.i64.wrap (a7 + blockSize6)) b8 cmp2_f cmp2_a cmp2_c cmp2 cmp2_h _ hx11) hO (by kernel_rfl) (by kernel_rfl) ?_
        intro H hO hl12
        simp only [List.length_map] at hl12
        replace hN := hl12.trans hN
        refine R_en ?_
        refine E_has (l := [(0, (.msl 2 lo0p 0 (List.length x10))), (1, (eInt .i64 n1)), (2, (.fn (.func cmp2_f) cmp2_a cmp2_c)), (6, (eInt .i64 blockSize6)), (8, (eInt .i64 b8))]) ⟨[(0, (.msl 2 lo0p 0 (List.length data0))), (1, (eInt .i64 n1)), (2, (.fn (.func cmp2_f) cmp2_a cmp2_c)), (6, (eInt .i64 blockSize6)), (8, (eInt .i64 b8))], by kernel_rfl, rfl, ⟨SubV.eq (by simp [hl12]), SubV.refl _, SubV.refl _, SubV.refl _, SubV.refl _, trivial⟩⟩ ?_
        refine E_done (thenA_normal (?_))
        refine C_sq ?_
        refine C_rg ttOk 2 ?_
        refine R_al ?_
        refine E_tn [(0, (.msl 2 lo0p 0 (List.length x10))), (1, (eInt .i64 n1)), (2, (.fn (.func cmp2_f) cmp2_a cmp2_c)), (6, (eInt .i64 blockSize6)), (7, (eInt .i64 b8)), (8, (eInt .i64 b8))] ?_
        refine C_rg ttOk 5 ?_
        refine R_al ?_
        refine E_hk [(0, (.msl 2 lo0p 0 (List.length x10))), (1, (eInt .i64 n1)), (2, (.fn (.func cmp2_f) cmp2_a cmp2_c)), (6, (eInt .i64 blockSize6)), (7, (eInt .i64 b8)), (8, (eInt .i64 (IntKind.i64.wrap (b8 + (IntKind.i64.wrap ((2 : Int) * blockSize6))))))] ?_
        exact E_done (blockA_normal (thenA_normal (⟨rfl, (x10, b8, IntKind.i64.wrap (b8 + (IntKind.i64.wrap ((2 : Int) * blockSize6)))), (Option.some.inj h2).symm, .eq (by kernel_rfl), hO, hN⟩)))
      replace h2 := condF hc9 h2
      refine C_ex 4 ?_
      refine E_hk [(0, (.msl 2 lo0p 0 (List.length data0))), (1, (eInt .i64 n1)), (2, (.fn (.func cmp2_f) cmp2_a cmp2_c)), (6, (eInt .i64 blockSize6)), (7, (eInt .i64 a7))] ?_
      obtain rfl := Option.some.inj h2
      obtain rfl : _ = rr1 := ho1
      replace h1 : slices_stableCmpFunc_api_Jump_j3 cmp2 data0 n1 blockSize6 a7 = some out1 := h1
      exact E_done (thenA_exit (thenA_exit (blockA_hit (thenA_normal (⟨rfl, data0, a7, .eq (by kernel_rfl), hO, hN, h1⟩)))))
    replace h1 := condF hc4 h1
    refine C_ex 2 ?_
    refine E_hk [(0, (.msl 2 lo0p 0 (List.length data0)))] ?_
    obtain rfl := Option.some.inj h1
    obtain rfl : _ = rr0 := ho0
    replace h0 : some data0 = some r := h0
    obtain rfl := Option.some.inj h0
    exact E_done (thenA_exit (thenA_exit (blockA_hit (Q_end (x := (.tup [])) (by kernel_rfl) (SubV.refl _) ⟨rfl, hO.ext, hO.at 0 (by kernel_rfl), by simp only [List.length_map]; exact hN.trans hN0⟩))))
  refine C_bk 0 ?_
  refine C_hk [(0, (.msl 2 lo0p 0 (List.length data0))), (1, (eInt .i64 n1)), (2, (.fn (.func cmp2_f) cmp2_a cmp2_c)), (6, (eInt .i64 (20 : Int))), (7, (eInt .i64 (0 : Int))), (8, (eInt .i64 (20 : Int)))] ?_
  refine C_cut (fun T H => ∃ data0 : List api_Jump, ∃ blockSize6 : Int, ∃ a7 : Int, ∃ b8 : Int, Has T [(0, (.msl 2 lo0p 0 (List.length data0))), (1, (eInt .i64 n1)), (2, (.fn (.func cmp2_f) cmp2_a cmp2_c)), (6, (eInt .i64 blockSize6)), (7, (eInt .i64 a7)), (8, (eInt .i64 b8))] ∧ Owns ⟨H0, [lo0p], []⟩ H [(lo0p, 2, List.map e_api_Jump data0)] ∧ List.length data0 = N0 ∧ slices_stableCmpFunc_api_Jump_h6 cmp2 data0 n1 blockSize6 a7 b8 = some r) ?_ ⟨data0, (20 : Int), (0 : Int), (20 : Int), .eq (by kernel_rfl), hO, hN, h0⟩
  clear hO hN h0
  rintro T H ⟨data0, blockSize6, a7, b8, hT, hO, hN, h0⟩
  refine C_has hT ?_
  clear hT
  unfold slices_stableCmpFunc_api_Jump_h6 at h0
  obtain ⟨rr0, hl0, h0⟩ := bindE h0
  refine C_loopS (by kernel_rfl) (fun (s : List api_Jump × Int × Int) T H => Has T [(0, (.msl 2 lo0p 0 (List.length s.1))), (1, (eInt .i64 n1)), (2, (.fn (.func cmp2_f) cmp2_a cmp2_c)), (6, (eInt .i64 blockSize6)), (7, (eInt .i64 s.2.1)), (8, (eInt .i64 s.2.2))] ∧ Owns ⟨H0, [lo0p], []⟩ H [(lo0p, 2, List.map e_api_Jump s.1)] ∧ List.length s.1 = N0) hl0 ⟨.eq (by kernel_rfl), hO, hN⟩ ?_
  clear hO hN
  rintro k0 s out1 T H ⟨hT, hO, hN⟩ h1 ho0
  obtain ⟨data0, a7, b8⟩ := s
  replace h1 : slices_stableCmpFunc_api_Jump_l6 cmp2 n1 blockSize6 data0 a7 b8 = some out1 := h1
  refine C_has (l := [(0, (.msl 2 lo0p 0 (List.length data0))), (1, (eInt .i64 n1)), (2, (.fn (.func cmp2_f) cmp2_a cmp2_c)), (6, (eInt .i64 blockSize6)), (7, (eInt .i64 a7)), (8, (eInt .i64 b8))]) hT ?_
  clear hT
  unfold slices_stableCmpFunc_api_Jump_l6 at h1
  refine C_sq ?_
  refine C_sq ?_
  refine C_rg ttOk 3 ?_
  refine R_al ?_
  refine E_tn [(0, (.msl 2 lo0p 0 (List.length data0))), (1, (eInt .i64 n1)), (2, (.fn (.func cmp2_f) cmp2_a cmp2_c)), (6, (eInt .i64 blockSize6)), (7, (eInt .i64 a7)), (8, (eInt .i64 b8)), (13, (eBool (decide (b8 ≤ n1))))] ?_
  refine C_cn (decide (b8 ≤ n1)) (fun hc13 => ?_) (fun hc13 => ?_)
  · replace h1 := condT hc13 h1
    refine C_sk ?_
    refine E_tn [(0, (.msl 2 lo0p 0 (List.length data0))), (1, (eInt .i64 n1)), (2, (.fn (.func cmp2_f) cmp2_a cmp2_c)), (6, (eInt .i64 blockSize6)), (7, (eInt .i64 a7)), (8, (eInt .i64 b8))] ?_
    refine C_bk 1 ?_
    refine C_sq ?_
    refine C_rg ttOk 5 ?_
    refine R_pu 4 ?_
    obtain ⟨x14, hx15, h1⟩ := bindE h1
    refine R_callI (L' := [(lo0p, 2, List.map e_api_Jump x14)]) 0 lo0p 2 (List.map e_api_Jump data0) (List.map e_api_Jump x14) 121 [(.msl 2 lo0p 0 (List.length data0)), (eInt .i64 a7), (eInt .i64 b8), (.fn (.func cmp2_f) cmp2_a cmp2_c)] (.tup []) (by kernel_rfl) (by kernel_rfl) (w_slices_insertionSortCmpFunc_api_Jump lo0p data0 a7 b8 cmp2_f cmp2_a cmp2_c cmp2 cmp2_h _ hx15) hO (by kernel_rfl) (by kernel_rfl) ?_
    intro H hO hl16
    simp only [List.length_map] at hl16
    replace hN := hl16.trans hN
    refine R_en ?_
    refine E_has (l := [(0, (.msl 2 lo0p 0 (List.length x14))), (1, (eInt .i64 n1)), (2, (.fn (.func cmp2_f) cmp2_a cmp2_c)), (6, (eInt .i64 blockSize6)), (8, (eInt .i64 b8))]) ⟨[(0, (.msl 2 lo0p 0 (List.length data0))), (1, (eInt .i64 n1)), (2, (.fn (.func cmp2_f) cmp2_a cmp2_c)), (6, (eInt .i64 blockSize6)), (8, (eInt .i64 b8))], by kernel_rfl, rfl, ⟨SubV.eq (by simp [hl16]), SubV.refl _, SubV.refl _, SubV.refl _, SubV.refl _, trivial⟩⟩ ?_
    refine E_done (thenA_normal (?_))
    refine C_sq ?_
    refine C_rg ttOk 2 ?_
    refine R_al ?_
    refine E_tn [(0, (.msl 2 lo0p 0 (List.length x14))), (1, (eInt .i64 n1)), (2, (.fn (.func cmp2_f) cmp2_a cmp2_c)), (6, (eInt .i64 blockSize6)), (7, (eInt .i64 b8)), (8, (eInt .i64 b8))] ?_
    refine C_rg ttOk 4 ?_
    refine R_al ?_
    refine E_hk [(0, (.msl 2 lo0p 0 (List.length x14))), (1, (eInt .i64 n1)), (2, (.fn (.func cmp2_f) cmp2_a cmp2_c)), (6, (eInt .i64 blockSize6)), (7, (eInt .i64 b8)), (8, (eInt .i64 (IntKind.i64.wrap (b8 + blockSize6))))] ?_
    exact E_done (blockA_normal (thenA_normal (⟨rfl, (x14, b8, IntKind.i64.wrap (b8 + blockSize6)), (Option.some.inj h1).symm, .eq (by kernel_rfl), hO, hN⟩)))
  replace h1 := condF hc13 h1
  refine C_ex 0 ?_
  refine E_hk [(0, (.msl 2 lo0p 0 (List.length data0))), (1, (eInt .i64 n1)), (2, (.fn (.func cmp2_f) cmp2_a cmp2_c)), (6, (eInt .i64 blockSize6)), (7, (eInt .i64 a7))] ?_
  obtain rfl := Option.some.inj h1
  obtain rfl : _ = rr0 := ho0
  replace h0 : slices_stableCmpFunc_api_Jump_j1 cmp2 data0 n1 blockSize6 a7 = some r := h0
  exact E_done (thenA_exit (thenA_exit (blockA_hit (thenA_normal (⟨rfl, data0, blockSize6, a7, .eq (by kernel_rfl), hO, hN, h0⟩)))))

theorem w_slices_SortStableFunc_api_Jump_api_Jump (lo0p : Nat) (x0 : (List api_Jump)) (cmp1_f : Nat) (cmp1_a cmp1_c : List V) (cmp1 : api_Jump → api_Jump → Option Int) (cmp1_h : ∀ a0 a1 r, cmp1 a0 a1 = some r → Fine Try.prog cmp1_f (cmp1_a ++ [(e_api_Jump a0), (e_api_Jump a1)] ++ cmp1_c) (eInt .i64 r)) (r : List api_Jump) (h0 : s_slices_SortStableFunc_api_Jump_api_Jump x0 cmp1 = some r) : FineI Try.prog 100 lo0p 2 (List.map e_api_Jump x0) (List.map e_api_Jump r) [(.msl 2 lo0p 0 (List.length x0)), (.fn (.func cmp1_f) cmp1_a cmp1_c)] (.tup []) := by
  intro H0 hl0
  refine F_walk Try.func100 (by kernel_rfl) (by kernel_rfl) (by kernel_rfl) ?_
  have hO := Owns.start1 hl0
  clear hl0
  obtain ⟨N0, hN0⟩ : ∃ n, n = List.length x0 := ⟨_, rfl⟩
  have hN : List.length x0 = N0 := hN0.symm
  unfold s_slices_SortStableFunc_api_Jump_api_Jump at h0
  refine C_rg ttOk 5 ?_
  refine R_pu 4 ?_
  obtain ⟨x1, hx2, h0⟩ := bindE h0
  refine R_callI (L' := [(lo0p, 2, List.map e_api_Jump x1)]) 0 lo0p 2 (List.map e_api_Jump x0) (List.map e_api_Jump x1) 117 [(.msl 2 lo0p 0 (List.length x0)), (eInt .i64 ((List.length x0 : Nat) : Int)), (.fn (.func cmp1_f) cmp1_a cmp1_c)] (.tup []) (by kernel_rfl) (by kernel_rfl) (w_slices_stableCmpFunc_api_Jump lo0p x0 ((List.length x0 : Nat) : Int) cmp1_f cmp1_a cmp1_c cmp1 cmp1_h _ hx2) hO (by kernel_rfl) (by kernel_rfl) ?_
  intro H hO hl3
  simp only [List.length_map] at hl3
  replace hN := hl3.trans hN
  refine R_en ?_
  refine E_has (l := [(0, (.msl 2 lo0p 0 (List.length x1)))]) ⟨[(0, (.msl 2 lo0p 0 (List.length x0)))], by kernel_rfl, rfl, ⟨SubV.eq (by simp [hl3]), trivial⟩⟩ ?_
  obtain rfl := Option.some.inj h0
  exact E_done (Q_end (x := (.tup [])) (by kernel_rfl) (SubV.refl _) ⟨rfl, hO.ext, hO.at 0 (by kernel_rfl), by simp only [List.length_map]; exact hN.trans hN0⟩)

theorem w_step_Norm_3 (a0 : api_Jump) (b1 : api_Jump) (r : Int) (h0 : s_step_Norm_3 a0 b1 = some r) : Fine Try.prog 101 [(e_api_Jump a0), (e_api_Jump b1)] (eInt .i64 r) := by
  intro H0
  refine F_walk Try.func101 (by kernel_rfl) (by kernel_rfl) (by kernel_rfl) ?_
  have hO := Owns.start H0
  unfold s_step_Norm_3 at h0
  refine C_sq ?_
  refine C_rg ttOk 3 ?_
  refine R_boxF 2 (e_api_Jump a0) (by kernel_rfl) (by kernel_rfl) ?_
  refine R_boxF 2 (e_api_Jump b1) (by kernel_rfl) (by kernel_rfl) ?_
  refine R_al ?_
  refine E_tn [(2, (.rp (e_api_Jump a0))), (3, (.rp (e_api_Jump b1)))] ?_
  refine C_sq ?_
  refine C_rg ttOk 6 ?_
  refine R_pu 4 ?_
  obtain ⟨x1, hx2, h0⟩ := bindE h0
  refine R_cO 62 [(eInt .i64 a0.At), (eInt .i64 b1.At)] (eInt .i64 x1) (w_cmp_Compare_int a0.At b1.At _ hx2) hO ?_
  intro H hO
  refine R_al ?_
  refine E_tn [(4, (eInt .i64 x1))] ?_
  refine C_rt ?_
  refine E_hk [(4, (eInt .i64 x1))] ?_
  obtain rfl := Option.some.inj h0
  exact E_done (Q_ret (x := (eInt .i64 x1)) (by kernel_rfl) (SubV.refl _) ⟨rfl, hO.out⟩)

theorem w_step_told (f0 : (List api_Jump)) (r : ((List api_Jump) × Int)) (h0 : s_step_told f0 = some r) : Fine Try.prog 102 [(eL e_api_Jump f0)] (.tup [(eL e_api_Jump r.1), (eInt .i64 r.2)]) := by
  intro H0
  refine F_walk Try.func102 (by kernel_rfl) (by kernel_rfl) (by kernel_rfl) ?_
  have hO := Owns.start H0
  unfold s_step_told at h0
  refine C_sq ?_
  refine C_rg ttOk 2 ?_
  refine R_al ?_
  refine E_tn [(0, (eL e_api_Jump f0))] ?_
  refine C_sq ?_
  refine C_sq ?_
  refine C_rg ttOk 3 ?_
  refine R_pu 1 ?_
  obtain ⟨x1, hx2, h0⟩ := bindE h0
  refine R_cO 51 [(eL e_api_Jump f0)] (eBool x1) (w_step_May f0 _ hx2) hO ?_
  intro H hO
  refine R_al ?_
  refine E_tn [(0, (eL e_api_Jump f0)), (6, (eBool (!x1)))] ?_
  refine C_cn (!x1) (fun hc4 => ?_) (fun hc4 => ?_)
  · replace h0 := condT hc4 h0
    refine C_sq ?_
    refine C_rg ttOk 2 ?_
    refine R_al ?_
    refine E_tn [(2, (.sl true 0 (fun _ => .bad))), (3, (eInt .i64 (7 : Int)))] ?_
    refine C_rt ?_
    refine E_has (l := [(2, (eL e_api_Jump ([]))), (3, (eInt .i64 (7 : Int)))]) ⟨[(2, (.sl true 0 (fun _ => .bad))), (3, (eInt .i64 (7 : Int)))], by kernel_rfl, rfl, ⟨subNilL, SubV.refl _, trivial⟩⟩ ?_
    obtain rfl := Option.some.inj h0
    exact E_done (thenA_ret (Q_ret (x := (.tup [(eL e_api_Jump ([])), (eInt .i64 (7 : Int))])) (by kernel_rfl) (SubV.refl _) ⟨rfl, hO.out⟩))
  replace h0 := condF hc4 h0
  refine C_sk ?_
  refine E_tn [(0, (eL e_api_Jump f0))] ?_
  refine C_sq ?_
  refine C_rg ttOk 3 ?_
  refine R_al ?_
  refine E_tn [(2, (eL e_api_Jump f0)), (3, (eInt .i64 (0 : Int)))] ?_
  refine C_rt ?_
  refine E_hk [(2, (eL e_api_Jump f0)), (3, (eInt .i64 (0 : Int)))] ?_
  obtain rfl := Option.some.inj h0
  exact E_done (Q_ret (x := (.tup [(eL e_api_Jump f0), (eInt .i64 (0 : Int))])) (by kernel_rfl) (SubV.refl _) ⟨rfl, hO.out⟩)

theorem w_step_Norm (l0 : (List api_Jump)) (r : ((List api_Jump) × Int)) (h0 : s_step_Norm l0 = some r) : Fine Try.prog 65 [(eL e_api_Jump l0)] (.tup [(eL e_api_Jump r.1), (eInt .i64 r.2)]) := by
  intro H0
  refine F_walk Try.func65 (by kernel_rfl) (by kernel_rfl) (by kernel_rfl) ?_
  have hO := Owns.start H0
  unfold s_step_Norm at h0
  refine C_sq ?_
  refine C_rg ttOk 2 ?_
  refine R_al ?_
  refine E_tn [(0, (eL e_api_Jump l0))] ?_
  refine C_sq ?_
  refine C_sq ?_
  refine C_rg ttOk 2 ?_
  refine R_pu 1 ?_
  obtain ⟨x1, hx2, h0⟩ := bindE h0
  refine R_cO 96 [(eL e_api_Jump l0), (.fn (.func 97) [] [])] (eBool x1) (w_slices_ContainsFunc_api_Jump_api_Jump l0 97 [] [] (fun y0 => s_step_Norm_1 y0) (fun y0 r h => w_step_Norm_1 y0 r h) _ hx2) hO ?_
  intro H hO
  refine R_en ?_
  refine E_tn [(0, (eL e_api_Jump l0)), (9, (eBool x1))] ?_
  refine C_cn (x1) (fun hc4 => ?_) (fun hc4 => ?_)
  · replace h0 := condT hc4 h0
    refine C_sq ?_
    refine C_rg ttOk 2 ?_
    refine R_al ?_
    refine E_tn [(2, (.sl true 0 (fun _ => .bad))), (3, (eInt .i64 (2 : Int)))] ?_
    refine C_rt ?_
    refine E_has (l := [(2, (eL e_api_Jump ([]))), (3, (eInt .i64 (2 : Int)))]) ⟨[(2, (.sl true 0 (fun _ => .bad))), (3, (eInt .i64 (2 : Int)))], by kernel_rfl, rfl, ⟨subNilL, SubV.refl _, trivial⟩⟩ ?_
    obtain rfl := Option.some.inj h0
    exact E_done (thenA_ret (Q_ret (x := (.tup [(eL e_api_Jump ([])), (eInt .i64 (2 : Int))])) (by kernel_rfl) (SubV.refl _) ⟨rfl, hO.out⟩))
  replace h0 := condF hc4 h0
  refine C_sk ?_
  refine E_tn [(0, (eL e_api_Jump l0))] ?_
  refine C_sq ?_
  refine C_sq ?_
  refine C_rg ttOk 2 ?_
  refine R_pu 1 ?_
  obtain ⟨x5, hx6, h0⟩ := bindE h0
  refine R_cO 96 [(eL e_api_Jump l0), (.fn (.func 98) [] [])] (eBool x5) (w_slices_ContainsFunc_api_Jump_api_Jump l0 98 [] [] (fun y0 => s_step_Norm_2 y0) (fun y0 r h => w_step_Norm_2 y0 r h) _ hx6) hO ?_
  intro H hO
  refine R_en ?_
  refine E_tn [(0, (eL e_api_Jump l0)), (11, (eBool x5))] ?_
  refine C_cn (x5) (fun hc8 => ?_) (fun hc8 => ?_)
  · replace h0 := condT hc8 h0
    refine C_sq ?_
    refine C_rg ttOk 2 ?_
    refine R_al ?_
    refine E_tn [(2, (.sl true 0 (fun _ => .bad))), (3, (eInt .i64 (13 : Int)))] ?_
    refine C_rt ?_
    refine E_has (l := [(2, (eL e_api_Jump ([]))), (3, (eInt .i64 (13 : Int)))]) ⟨[(2, (.sl true 0 (fun _ => .bad))), (3, (eInt .i64 (13 : Int)))], by kernel_rfl, rfl, ⟨subNilL, SubV.refl _, trivial⟩⟩ ?_
    obtain rfl := Option.some.inj h0
    exact E_done (thenA_ret (Q_ret (x := (.tup [(eL e_api_Jump ([])), (eInt .i64 (13 : Int))])) (by kernel_rfl) (SubV.refl _) ⟨rfl, hO.out⟩))
  replace h0 := condF hc8 h0
  refine C_sk ?_
  refine E_tn [(0, (eL e_api_Jump l0))] ?_
  refine C_sq ?_
  refine C_rg ttOk 3 ?_
  refine R_pu 1 ?_
  obtain ⟨x9, hx10, h0⟩ := bindE h0
  refine R_callP (L' := fun lo11 => [(lo11, 2, List.map e_api_Jump x9)]) 2 (List.map e_api_Jump x9) 99 [(eL e_api_Jump l0)] (fun lo11 => (.msl 2 lo11 0 (List.length x9))) (by kernel_rfl) (by kernel_rfl) (w_slices_Clone_api_Jump_api_Jump l0 _ hx10) hO (fun _ => by kernel_rfl) ?_
  intro lo11 H hO
  refine R_al ?_
  refine E_tn [(4, (.msl 2 lo11 0 (List.length x9)))] ?_
  refine C_sq ?_
  refine C_rg ttOk 2 ?_
  refine R_pu 1 ?_
  obtain ⟨x12, hx13, h0⟩ := bindE h0
  refine R_callI (L' := [(lo11, 2, List.map e_api_Jump x12)]) 0 lo11 2 (List.map e_api_Jump x9) (List.map e_api_Jump x12) 100 [(.msl 2 lo11 0 (List.length x9)), (.fn (.func 101) [] [])] (.tup []) (by kernel_rfl) (by kernel_rfl) (w_slices_SortStableFunc_api_Jump_api_Jump lo11 x9 101 [] [] (fun y0 y1 => s_step_Norm_3 y0 y1) (fun y0 y1 r h => w_step_Norm_3 y0 y1 r h) _ hx13) hO (by kernel_rfl) (by kernel_rfl) ?_
  intro H hO hl14
  simp only [List.length_map] at hl14
  refine R_en ?_
  refine E_has (l := [(4, (.msl 2 lo11 0 (List.length x12)))]) ⟨[(4, (.msl 2 lo11 0 (List.length x9)))], by kernel_rfl, rfl, ⟨SubV.eq (by simp [hl14]), trivial⟩⟩ ?_
  refine E_done (thenA_normal (?_))
  refine C_sq ?_
  refine C_rg ttOk 2 ?_
  refine R_bsl (xs := []) (k := 2) (by kernel_rfl) (by kernel_rfl) ?_
  refine R_al ?_
  refine E_tn [(4, (.msl 2 lo11 0 (List.length x12))), (5, (.sl true 0 (fun _ => .bad)))] ?_
  refine C_seqJ (by kernel_rfl) (fun T H => ∃ out5 : List api_Jump, ∃ lo15 : Nat, Has T [(5, (.msl 2 lo15 0 (List.length out5)))] ∧ Owns ⟨H0, [], []⟩ H [(lo15, 2, List.map e_api_Jump out5)] ∧ step_Norm_j1 out5 = some r) ?_ ?_
  · clear hO h0
    rintro T H ⟨out5, lo15, hT, hO, h0⟩
    refine C_has hT ?_
    clear hT
    unfold step_Norm_j1 at h0
    refine C_sq ?_
    refine C_rg ttOk 6 ?_
    refine R_freezeO (e := e_api_Jump) out5 0 5 2 lo15 (List.length out5) [] (by kernel_rfl) hO (by kernel_rfl) (by kernel_rfl) (by kernel_rfl) (by kernel_rfl) ?_
    intro H hO
    refine R_pu 1 ?_
    obtain ⟨x16, hx17, h0⟩ := bindE h0
    refine R_cO 102 [(eL e_api_Jump out5)] (.tup [(eL e_api_Jump x16.1), (eInt .i64 x16.2)]) (w_step_told out5 _ hx17) hO ?_
    intro H hO
    refine R_al ?_
    refine E_tn [(2, (eL e_api_Jump x16.1)), (3, (eInt .i64 x16.2))] ?_
    refine C_rt ?_
    refine E_hk [(2, (eL e_api_Jump x16.1)), (3, (eInt .i64 x16.2))] ?_
    obtain rfl := Option.some.inj h0
    exact E_done (Q_ret (x := (.tup [(eL e_api_Jump x16.1), (eInt .i64 x16.2)])) (by kernel_rfl) (SubV.refl _) ⟨rfl, hO.out⟩)
  refine C_sq ?_
  refine C_rg ttOk 1 ?_
  refine R_al ?_
  refine E_tn [(4, (.msl 2 lo11 0 (List.length x12))), (5, (.sl true 0 (fun _ => .bad))), (6, (eInt .i64 (0 : Int)))] ?_
  refine C_bk 0 ?_
  refine C_hk [(4, (.msl 2 lo11 0 (List.length x12))), (5, (.sl true 0 (fun _ => .bad))), (6, (eInt .i64 (0 : Int)))] ?_
  refine C_ownO (el := (fun _ => .bad)) 1 5 2 hO (by kernel_rfl) ?_
  intro lo43 H44 hO
  refine C_cut (fun T H => ∃ all4 : List api_Jump, ∃ out5 : List api_Jump, ∃ i6 : Int, ∃ lo21 : Nat, ∃ lo22 : Nat, Has T [(4, (.msl 2 lo21 0 (List.length all4))), (5, (.msl 2 lo22 0 (List.length out5))), (6, (eInt .i64 i6))] ∧ Owns ⟨H0, [], []⟩ H [(lo21, 2, List.map e_api_Jump all4), (lo22, 2, List.map e_api_Jump out5)] ∧ step_Norm_h2 all4 out5 i6 = some r) ?_ ⟨x12, ([] : List api_Jump), (0 : Int), lo11, lo43, .eq (by kernel_rfl), hO, h0⟩
  clear hO h0
  rintro T H ⟨all4, out5, i6, lo21, lo22, hT, hO, h0⟩
  refine C_has hT ?_
  clear hT
  unfold step_Norm_h2 at h0
  obtain ⟨rr0, hl0, h0⟩ := bindE h0
  refine C_loopS (by kernel_rfl) (fun (s : List api_Jump × List api_Jump × Int) T H => ∃ lo21 : Nat, ∃ lo22 : Nat, Has T [(4, (.msl 2 lo21 0 (List.length s.1))), (5, (.msl 2 lo22 0 (List.length s.2.1))), (6, (eInt .i64 s.2.2))] ∧ Owns ⟨H0, [], []⟩ H [(lo21, 2, List.map e_api_Jump s.1), (lo22, 2, List.map e_api_Jump s.2.1)]) hl0 ⟨lo21, lo22, .eq (by kernel_rfl), hO⟩ ?_
  clear hO
  rintro k0 s out1 T H ⟨lo21, lo22, hT, hO⟩ h1 ho0
  obtain ⟨all4, out5, i6⟩ := s
  replace h1 : step_Norm_l2 all4 out5 i6 = some out1 := h1
  refine C_has (l := [(4, (.msl 2 lo21 0 (List.length all4))), (5, (.msl 2 lo22 0 (List.length out5))), (6, (eInt .i64 i6))]) hT ?_
  clear hT
  unfold step_Norm_l2 at h1
  refine C_sq ?_
  refine C_sq ?_
  refine C_rg ttOk 4 ?_
  refine R_al ?_
  refine E_tn [(4, (.msl 2 lo21 0 (List.length all4))), (5, (.msl 2 lo22 0 (List.length out5))), (6, (eInt .i64 i6)), (20, (eBool (decide (i6 < ((List.length all4 : Nat) : Int)))))] ?_
  refine C_cn (decide (i6 < ((List.length all4 : Nat) : Int))) (fun hc23 => ?_) (fun hc23 => ?_)
  · replace h1 := condT hc23 h1
    refine C_sk ?_
    refine E_tn [(4, (.msl 2 lo21 0 (List.length all4))), (5, (.msl 2 lo22 0 (List.length out5))), (6, (eInt .i64 i6))] ?_
    refine C_bk 1 ?_
    refine C_sq ?_
    refine C_rg ttOk 8 ?_
    obtain ⟨c24, h1⟩ := asrtE h1
    refine R_pure 4 (by kernel_rfl) (Ds := [0 ≤ i6 ∧ i6 < ((List.length all4 : Nat) : Int)]) (by kernel_rfl) ⟨c24, trivial⟩ ?_
    refine R_loadO [] 0 lo21 2 (0 + Int.toNat i6) (e_api_Jump (List.getD all4 (Int.toNat i6) default)) (eInt .i64 ((List.getD all4 (Int.toNat i6) default).At)) (List.map e_api_Jump all4) (by kernel_rfl) (by kernel_rfl) hO (by kernel_rfl) true (by kernel_rfl) (fun _ => (ownGet c24)) ?_
    refine R_pu 6 ?_
    refine R_allocO 2 (e_api_Jump (api_Jump.mk 0 0)) (by kernel_rfl) (by kernel_rfl) hO ?_
    intro lo25 H hO
    refine R_storeOL 2 lo25 2 0 (e_api_Jump (api_Jump.mk 0 0)) (e_api_Jump (api_Jump.mk ((List.getD all4 (Int.toNat i6) default).At) 0)) [(e_api_Jump (api_Jump.mk 0 0))] [(lo21, 2, List.map e_api_Jump all4), (lo22, 2, List.map e_api_Jump out5), (lo25, 2, [(e_api_Jump (api_Jump.mk ((List.getD all4 (Int.toNat i6) default).At) 0))])] (by kernel_rfl) (by kernel_rfl) (by kernel_rfl) hO (by kernel_rfl) rfl (by kernel_rfl) ?_
    intro H hO
    refine R_en ?_
    refine E_tn [(4, (.msl 2 lo21 0 (List.length all4))), (5, (.msl 2 lo22 0 (List.length out5))), (6, (eInt .i64 i6)), (7, (.lp lo25 0 0))] ?_
    refine C_seqJ (by kernel_rfl) (fun T H => ∃ all4 : List api_Jump, ∃ out5 : List api_Jump, ∃ i6 : Int, ∃ j7 : api_Jump, ∃ lo26 : Nat, ∃ lo27 : Nat, ∃ lo28 : Nat, Has T [(4, (.msl 2 lo26 0 (List.length all4))), (5, (.msl 2 lo27 0 (List.length out5))), (6, (eInt .i64 i6)), (7, (.lp lo28 0 0))] ∧ Owns ⟨H0, [], []⟩ H [(lo26, 2, List.map e_api_Jump all4), (lo27, 2, List.map e_api_Jump out5), (lo28, 2, [(e_api_Jump j7)])] ∧ step_Norm_j3 all4 out5 i6 j7 = some out1) ?_ ?_
    · clear hO h1
      rintro T H ⟨all4, out5, i6, j7, lo26, lo27, lo28, hT, hO, h1⟩
      refine C_has hT ?_
      clear hT
      unfold step_Norm_j3 at h1
      refine C_sq ?_
      refine C_rg ttOk 8 ?_
      refine R_pu 1 ?_
      refine R_loadO [] 2 lo28 2 0 (e_api_Jump j7) (eInt .i64 j7.Net) [(e_api_Jump j7)] (by kernel_rfl) (by kernel_rfl) hO (by kernel_rfl) true (by kernel_rfl) (fun _ => rfl) ?_
      refine R_pu 5 ?_
      refine R_loadO [(55, true)] 2 lo28 2 0 (e_api_Jump j7) (eInt .i64 j7.At) [(e_api_Jump j7)] (by kernel_rfl) (by kernel_rfl) hO (by kernel_rfl) (!decide (j7.Net = (0 : Int))) (by kernel_rfl) (fun hb29 => rfl) ?_
      refine R_al ?_
      refine E_tn [(4, (.msl 2 lo26 0 (List.length all4))), (5, (.msl 2 lo27 0 (List.length out5))), (6, (eInt .i64 i6)), (7, (.lp lo28 0 0)), (59, (eBool ((!decide (j7.Net = (0 : Int))) && (decide (j7.At < (1125899906842624 : Int))))))] ?_
      refine C_cn ((!decide (j7.Net = (0 : Int))) && (decide (j7.At < (1125899906842624 : Int)))) (fun hc30 => ?_) (fun hc30 => ?_)
      · replace h1 := condT hc30 h1
        refine C_rg ttOk 5 ?_
        refine R_pu 1 ?_
        refine R_loadO [] 2 lo28 2 0 (e_api_Jump j7) (e_api_Jump j7) [(e_api_Jump j7)] (by kernel_rfl) (by kernel_rfl) hO (by kernel_rfl) true (by kernel_rfl) (fun _ => rfl) ?_
        refine R_bsl (xs := [(e_api_Jump j7)]) (k := 2) (by kernel_rfl) (by kernel_rfl) ?_
        obtain ⟨c32, h1⟩ := asrtE h1
        refine R_appOL (e := e_api_Jump) out5 ([j7]) 1 lo27 2 16 (frozenOf [(e_api_Jump j7)]) (fun lo31 => [(lo26, 2, List.map e_api_Jump all4), (lo31, 2, List.map e_api_Jump (out5 ++ ([j7]))), (lo28, 2, [(e_api_Jump j7)])]) (by kernel_rfl) (by kernel_rfl) hO (by kernel_rfl) (by kernel_rfl) c32 (fun _ => by kernel_rfl) ?_
        intro lo31 H hO
        refine R_al ?_
        refine E_hk [(4, (.msl 2 lo26 0 (List.length all4))), (5, (.msl 2 lo31 0 (List.length (out5 ++ ([j7]))))), (6, (eInt .i64 i6))] ?_
        replace hO := hO.pick (L' := [(lo26, 2, List.map e_api_Jump all4), (lo31, 2, List.map e_api_Jump (out5 ++ ([j7])))]) [0, 1] (by decide) (by kernel_rfl)
        exact E_done (blockA_normal (thenA_normal (⟨rfl, (all4, out5 ++ ([j7]), i6), (Option.some.inj h1).symm, lo26, lo31, .eq (by kernel_rfl), hO⟩)))
      replace h1 := condF hc30 h1
      refine C_sk ?_
      refine E_hk [(4, (.msl 2 lo26 0 (List.length all4))), (5, (.msl 2 lo27 0 (List.length out5))), (6, (eInt .i64 i6))] ?_
      replace hO := hO.pick (L' := [(lo26, 2, List.map e_api_Jump all4), (lo27, 2, List.map e_api_Jump out5)]) [0, 1] (by decide) (by kernel_rfl)
      exact E_done (blockA_normal (thenA_normal (⟨rfl, (all4, out5, i6), (Option.some.inj h1).symm, lo26, lo27, .eq (by kernel_rfl), hO⟩)))
    refine C_bk 2 ?_
    refine C_hk [(4, (.msl 2 lo21 0 (List.length all4))), (5, (.msl 2 lo22 0 (List.length out5))), (6, (eInt .i64 i6)), (7, (.lp lo25 0 0))] ?_
    refine C_cut (fun T H => ∃ all4 : List api_Jump, ∃ out5 : List api_Jump, ∃ i6 : Int, ∃ j7 : api_Jump, ∃ lo36 : Nat, ∃ lo37 : Nat, ∃ lo38 : Nat, Has T [(4, (.msl 2 lo36 0 (List.length all4))), (5, (.msl 2 lo37 0 (List.length out5))), (6, (eInt .i64 i6)), (7, (.lp lo38 0 0))] ∧ Owns ⟨H0, [], []⟩ H [(lo36, 2, List.map e_api_Jump all4), (lo37, 2, List.map e_api_Jump out5), (lo38, 2, [(e_api_Jump j7)])] ∧ step_Norm_h4 all4 out5 i6 j7 = some out1) ?_ ⟨all4, out5, i6, api_Jump.mk ((List.getD all4 (Int.toNat i6) default).At) 0, lo21, lo22, lo25, .eq (by kernel_rfl), hO, h1⟩
    clear hO h1
    rintro T H ⟨all4, out5, i6, j7, lo36, lo37, lo38, hT, hO, h1⟩
    refine C_has hT ?_
    clear hT
    unfold step_Norm_h4 at h1
    obtain ⟨rr1, hl1, h1⟩ := bindE h1
    refine C_loopS (by kernel_rfl) (fun (s : List api_Jump × List api_Jump × Int × api_Jump) T H => ∃ lo36 : Nat, ∃ lo37 : Nat, ∃ lo38 : Nat, Has T [(4, (.msl 2 lo36 0 (List.length s.1))), (5, (.msl 2 lo37 0 (List.length s.2.1))), (6, (eInt .i64 s.2.2.1)), (7, (.lp lo38 0 0))] ∧ Owns ⟨H0, [], []⟩ H [(lo36, 2, List.map e_api_Jump s.1), (lo37, 2, List.map e_api_Jump s.2.1), (lo38, 2, [(e_api_Jump s.2.2.2)])]) hl1 ⟨lo36, lo37, lo38, .eq (by kernel_rfl), hO⟩ ?_
    clear hO
    rintro k1 s out2 T H ⟨lo36, lo37, lo38, hT, hO⟩ h2 ho1
    obtain ⟨all4, out5, i6, j7⟩ := s
    replace h2 : step_Norm_l4 all4 out5 i6 j7 = some out2 := h2
    refine C_has (l := [(4, (.msl 2 lo36 0 (List.length all4))), (5, (.msl 2 lo37 0 (List.length out5))), (6, (eInt .i64 i6)), (7, (.lp lo38 0 0))]) hT ?_
    clear hT
    unfold step_Norm_l4 at h2
    refine C_sq ?_
    refine C_sq ?_
    obtain ⟨c39, h2⟩ := asrtE h2
    refine A_cl (C_draw (pl := plOf []) ttOk (by kernel_rfl) (n := 14) (by kernel_rfl) (by kernel_rfl) (by kernel_rfl) ?_)
    refine D_mono (K := fun T H => Has (lift T) [(4, (.msl 2 lo36 0 (List.length all4))), (5, (.msl 2 lo37 0 (List.length out5))), (6, (eInt .i64 i6)), (7, (.lp lo38 0 0)), (40, (eBool ((decide (i6 < ((List.length all4 : Nat) : Int))) && (decide (((List.getD all4 (Int.toNat i6) default).At) = j7.At)))))] ∧ Owns ⟨H0, [], []⟩ H [(lo36, 2, List.map e_api_Jump all4), (lo37, 2, List.map e_api_Jump out5), (lo38, 2, [(e_api_Jump j7)])]) ?_ ?_
    · refine D_pu 5 ?_
      refine D_split (t := 31) (e := decide (i6 < ((List.length all4 : Nat) : Int))) (by kernel_rfl) (fun hg40 => ?_) (fun hg40 => ?_)
      · refine D_pure 9 (by kernel_rfl) (Ds := [0 ≤ i6 ∧ i6 < ((List.length all4 : Nat) : Int)]) (by kernel_rfl) ⟨(c39 (by first | (simp only [hg40, Bool.not_true, Bool.not_false, Bool.true_and, Bool.and_true, Bool.false_and, Bool.and_false, Bool.or_true, Bool.true_or, Bool.or_false, Bool.false_or, cond_true, cond_false]; done) | simp [hg40])), trivial⟩ ?_
        refine D_loadV 0 lo36 2 (0 + Int.toNat i6) (e_api_Jump (List.getD all4 (Int.toNat i6) default)) (eInt .i64 ((List.getD all4 (Int.toNat i6) default).At)) (List.map e_api_Jump all4) (by kernel_rfl) (by kernel_rfl) (by kernel_rfl) hO (by kernel_rfl) (ownGet (c39 (by first | (simp only [hg40, Bool.not_true, Bool.not_false, Bool.true_and, Bool.and_true, Bool.false_and, Bool.and_false, Bool.or_true, Bool.true_or, Bool.or_false, Bool.false_or, cond_true, cond_false]; done) | simp [hg40]))) ?_
        refine D_pu 11 ?_
        refine D_loadV 2 lo38 2 0 (e_api_Jump j7) (eInt .i64 j7.At) [(e_api_Jump j7)] (by kernel_rfl) (by kernel_rfl) (by kernel_rfl) hO (by kernel_rfl) rfl ?_
        refine D_al ?_
        exact ⟨⟨[(4, (.msl 2 lo36 0 (List.length all4))), (5, (.msl 2 lo37 0 (List.length out5))), (6, (eInt .i64 i6)), (7, (.lp lo38 0 0)), (40, (eBool (decide (((List.getD all4 (Int.toNat i6) default).At) = j7.At))))], by kernel_rfl, rfl, ⟨SubV.refl _, SubV.refl _, SubV.refl _, SubV.refl _, SubV.eq (by first | (simp only [eBool, hg40, Bool.not_true, Bool.not_false, Bool.true_and, Bool.and_true, Bool.false_and, Bool.and_false, Bool.or_true, Bool.true_or, Bool.or_false, Bool.false_or, cond_true, cond_false]; done) | simp [eBool, hg40]), trivial⟩⟩, hO⟩
      refine D_al ?_
      exact ⟨⟨[(4, (.msl 2 lo36 0 (List.length all4))), (5, (.msl 2 lo37 0 (List.length out5))), (6, (eInt .i64 i6)), (7, (.lp lo38 0 0)), (40, (eBool false))], by kernel_rfl, rfl, ⟨SubV.refl _, SubV.refl _, SubV.refl _, SubV.refl _, SubV.eq (by first | (simp only [eBool, hg40, Bool.not_true, Bool.not_false, Bool.true_and, Bool.and_true, Bool.false_and, Bool.and_false, Bool.or_true, Bool.true_or, Bool.or_false, Bool.false_or, cond_true, cond_false]; done) | simp [eBool, hg40]), trivial⟩⟩, hO⟩
    · rintro T H ⟨hT, hO⟩
      refine E_has hT ?_
      clear hT
      refine E_tn [(4, (.msl 2 lo36 0 (List.length all4))), (5, (.msl 2 lo37 0 (List.length out5))), (6, (eInt .i64 i6)), (7, (.lp lo38 0 0)), (40, (eBool ((decide (i6 < ((List.length all4 : Nat) : Int))) && (decide (((List.getD all4 (Int.toNat i6) default).At) = j7.At)))))] ?_
      refine C_cn ((decide (i6 < ((List.length all4 : Nat) : Int))) && (decide (((List.getD all4 (Int.toNat i6) default).At) = j7.At))) (fun hc41 => ?_) (fun hc41 => ?_)
      · replace h2 := condT hc41 h2
        refine C_sk ?_
        refine E_tn [(4, (.msl 2 lo36 0 (List.length all4))), (5, (.msl 2 lo37 0 (List.length out5))), (6, (eInt .i64 i6)), (7, (.lp lo38 0 0))] ?_
        refine C_sq ?_
        refine C_bk 3 ?_
        refine A_cl (C_draw (pl := plOf []) ttOk (by kernel_rfl) (n := 10) (by kernel_rfl) (by kernel_rfl) (by kernel_rfl) ?_)
        refine D_pu 1 ?_
        refine D_loadO 2 lo38 2 0 (e_api_Jump j7) (eInt .i64 j7.Net) [(e_api_Jump j7)] (by kernel_rfl) (by kernel_rfl) (by kernel_rfl) (by kernel_rfl) hO (by kernel_rfl) rfl ?_
        obtain ⟨c42, h2⟩ := asrtE h2
        refine D_pure 6 (by kernel_rfl) (Ds := [0 ≤ i6 ∧ i6 < ((List.length all4 : Nat) : Int)]) (by kernel_rfl) ⟨c42, trivial⟩ ?_
        refine D_loadO 0 lo36 2 (0 + Int.toNat i6) (e_api_Jump (List.getD all4 (Int.toNat i6) default)) (eInt .i64 ((List.getD all4 (Int.toNat i6) default).Net)) (List.map e_api_Jump all4) (by kernel_rfl) (by kernel_rfl) (by kernel_rfl) (by kernel_rfl) hO (by kernel_rfl) (ownGet c42) ?_
        refine D_pu 9 ?_
        refine D_storeO 2 lo38 2 0 (e_api_Jump j7) (e_api_Jump (api_Jump.mk j7.At (IntKind.i64.wrap (j7.Net + ((List.getD all4 (Int.toNat i6) default).Net))))) [(e_api_Jump j7)] [(lo36, 2, List.map e_api_Jump all4), (lo37, 2, List.map e_api_Jump out5), (lo38, 2, [(e_api_Jump (api_Jump.mk j7.At (IntKind.i64.wrap (j7.Net + ((List.getD all4 (Int.toNat i6) default).Net)))))])] (by kernel_rfl) (by kernel_rfl) (by kernel_rfl) hO (by kernel_rfl) rfl (by kernel_rfl) ?_
        intro H hO
        refine D_end (by kernel_rfl) ?_
        refine E_hk [(4, (.msl 2 lo36 0 (List.length all4))), (5, (.msl 2 lo37 0 (List.length out5))), (6, (eInt .i64 i6)), (7, (.lp lo38 0 0))] ?_
        refine E_done (blockA_normal (thenA_normal (?_)))
        refine C_rg ttOk 3 ?_
        refine R_al ?_
        refine E_hk [(4, (.msl 2 lo36 0 (List.length all4))), (5, (.msl 2 lo37 0 (List.length out5))), (6, (eInt .i64 (IntKind.i64.wrap (i6 + (1 : Int))))), (7, (.lp lo38 0 0))] ?_
        exact E_done (thenA_normal (⟨rfl, (all4, out5, IntKind.i64.wrap (i6 + (1 : Int)), api_Jump.mk j7.At (IntKind.i64.wrap (j7.Net + ((List.getD all4 (Int.toNat i6) default).Net)))), (Option.some.inj h2).symm, lo36, lo37, lo38, .eq (by kernel_rfl), hO⟩))
      replace h2 := condF hc41 h2
      refine C_ex 2 ?_
      refine E_hk [(4, (.msl 2 lo36 0 (List.length all4))), (5, (.msl 2 lo37 0 (List.length out5))), (6, (eInt .i64 i6)), (7, (.lp lo38 0 0))] ?_
      obtain rfl := Option.some.inj h2
      obtain rfl : _ = rr1 := ho1
      replace h1 : step_Norm_j3 all4 out5 i6 j7 = some out1 := h1
      exact E_done (thenA_exit (thenA_exit (blockA_hit (thenA_normal (⟨rfl, all4, out5, i6, j7, lo36, lo37, lo38, .eq (by kernel_rfl), hO, h1⟩)))))
  replace h1 := condF hc23 h1
  refine C_ex 0 ?_
  refine E_hk [(5, (.msl 2 lo22 0 (List.length out5)))] ?_
  replace hO := hO.pick (L' := [(lo22, 2, List.map e_api_Jump out5)]) [1] (by decide) (by kernel_rfl)
  obtain rfl := Option.some.inj h1
  obtain rfl : _ = rr0 := ho0
  replace h0 : step_Norm_j1 out5 = some r := h0
  exact E_done (thenA_exit (thenA_exit (blockA_hit (thenA_normal (⟨rfl, out5, lo22, .eq (by kernel_rfl), hO, h0⟩)))))

theorem w_edge_Norm_4 (f0 : (List api_Jump)) (r : ((List api_Jump) × Int)) (h0 : s_edge_Norm_4 f0 = some r) : Fine Try.prog 64 [(eL e_api_Jump f0)] (.tup [(eL e_api_Jump r.1), (eInt .i64 r.2)]) := by
  intro H0
  refine F_walk Try.func64 (by kernel_rfl) (by kernel_rfl) (by kernel_rfl) ?_
  have hO := Owns.start H0
  unfold s_edge_Norm_4 at h0
  refine C_sq ?_
  refine C_rg ttOk 2 ?_
  refine R_al ?_
  refine E_tn [(0, (eL e_api_Jump f0))] ?_
  refine C_sq ?_
  refine C_rg ttOk 6 ?_
  refine R_pu 1 ?_
  obtain ⟨x1, hx2, h0⟩ := bindE h0
  refine R_cO 65 [(eL e_api_Jump f0)] (.tup [(eL e_api_Jump x1.1), (eInt .i64 x1.2)]) (w_step_Norm f0 _ hx2) hO ?_
  intro H hO
  refine R_al ?_
  refine E_tn [(2, (eL e_api_Jump x1.1)), (3, (eInt .i64 x1.2))] ?_
  refine C_rt ?_
  refine E_hk [(2, (eL e_api_Jump x1.1)), (3, (eInt .i64 x1.2))] ?_
  obtain rfl := Option.some.inj h0
  exact E_done (Q_ret (x := (.tup [(eL e_api_Jump x1.1), (eInt .i64 x1.2)])) (by kernel_rfl) (SubV.refl _) ⟨rfl, hO.out⟩)

theorem w_edge_Norm (l0 : (List api_Edge)) (r : ((List api_Edge) × Int)) (h0 : s_edge_Norm l0 = some r) : Fine Try.prog 23 [(eL e_api_Edge l0)] (.tup [(eL e_api_Edge r.1), (eInt .i64 r.2)]) := by
  intro H0
  refine F_walk Try.func23 (by kernel_rfl) (by kernel_rfl) (by kernel_rfl) ?_
  have hO := Owns.start H0
  unfold s_edge_Norm at h0
  refine C_sq ?_
  refine C_rg ttOk 2 ?_
  refine R_al ?_
  refine E_tn [(0, (eL e_api_Edge l0))] ?_
  refine C_sq ?_
  refine C_sq ?_
  refine C_rg ttOk 2 ?_
  refine R_pu 1 ?_
  obtain ⟨x1, hx2, h0⟩ := bindE h0
  refine R_cO 53 [(eL e_api_Edge l0), (.fn (.func 54) [] [])] (eBool x1) (w_slices_ContainsFunc_api_Edge_api_Edge l0 54 [] [] (fun y0 => s_edge_Norm_1 y0) (fun y0 r h => w_edge_Norm_1 y0 r h) _ hx2) hO ?_
  intro H hO
  refine R_en ?_
  refine E_tn [(0, (eL e_api_Edge l0)), (6, (eBool x1))] ?_
  refine C_cn (x1) (fun hc4 => ?_) (fun hc4 => ?_)
  · replace h0 := condT hc4 h0
    refine C_sq ?_
    refine C_rg ttOk 2 ?_
    refine R_al ?_
    refine E_tn [(2, (.sl true 0 (fun _ => .bad))), (3, (eInt .i64 (2 : Int)))] ?_
    refine C_rt ?_
    refine E_has (l := [(2, (eL e_api_Edge ([]))), (3, (eInt .i64 (2 : Int)))]) ⟨[(2, (.sl true 0 (fun _ => .bad))), (3, (eInt .i64 (2 : Int)))], by kernel_rfl, rfl, ⟨subNilL, SubV.refl _, trivial⟩⟩ ?_
    obtain rfl := Option.some.inj h0
    exact E_done (thenA_ret (Q_ret (x := (.tup [(eL e_api_Edge ([])), (eInt .i64 (2 : Int))])) (by kernel_rfl) (SubV.refl _) ⟨rfl, hO.out⟩))
  replace h0 := condF hc4 h0
  refine C_sk ?_
  refine E_tn [(0, (eL e_api_Edge l0))] ?_
  refine C_sq ?_
  refine C_sq ?_
  refine C_rg ttOk 2 ?_
  refine R_pu 1 ?_
  obtain ⟨x5, hx6, h0⟩ := bindE h0
  refine R_cO 53 [(eL e_api_Edge l0), (.fn (.func 56) [] [])] (eBool x5) (w_slices_ContainsFunc_api_Edge_api_Edge l0 56 [] [] (fun y0 => s_edge_Norm_2 y0) (fun y0 r h => w_edge_Norm_2 y0 r h) _ hx6) hO ?_
  intro H hO
  refine R_en ?_
  refine E_tn [(0, (eL e_api_Edge l0)), (8, (eBool x5))] ?_
  refine C_cn (x5) (fun hc8 => ?_) (fun hc8 => ?_)
  · replace h0 := condT hc8 h0
    refine C_sq ?_
    refine C_rg ttOk 2 ?_
    refine R_al ?_
    refine E_tn [(2, (.sl true 0 (fun _ => .bad))), (3, (eInt .i64 (13 : Int)))] ?_
    refine C_rt ?_
    refine E_has (l := [(2, (eL e_api_Edge ([]))), (3, (eInt .i64 (13 : Int)))]) ⟨[(2, (.sl true 0 (fun _ => .bad))), (3, (eInt .i64 (13 : Int)))], by kernel_rfl, rfl, ⟨subNilL, SubV.refl _, trivial⟩⟩ ?_
    obtain rfl := Option.some.inj h0
    exact E_done (thenA_ret (Q_ret (x := (.tup [(eL e_api_Edge ([])), (eInt .i64 (13 : Int))])) (by kernel_rfl) (SubV.refl _) ⟨rfl, hO.out⟩))
  replace h0 := condF hc8 h0
  refine C_sk ?_
  refine E_tn [(0, (eL e_api_Edge l0))] ?_
  refine C_sq ?_
  refine C_rg ttOk 3 ?_
  refine R_pu 1 ?_
  obtain ⟨x9, hx10, h0⟩ := bindE h0
  refine R_callP (L' := fun lo11 => [(lo11, 3, List.map e_api_Edge x9)]) 3 (List.map e_api_Edge x9) 57 [(eL e_api_Edge l0)] (fun lo11 => (.msl 3 lo11 0 (List.length x9))) (by kernel_rfl) (by kernel_rfl) (w_slices_Clone_api_Edge_api_Edge l0 _ hx10) hO (fun _ => by kernel_rfl) ?_
  intro lo11 H hO
  refine R_al ?_
  refine E_tn [(4, (.msl 3 lo11 0 (List.length x9)))] ?_
  refine C_sq ?_
  refine C_rg ttOk 2 ?_
  refine R_pu 1 ?_
  obtain ⟨x12, hx13, h0⟩ := bindE h0
  refine R_callI (L' := [(lo11, 3, List.map e_api_Edge x12)]) 0 lo11 3 (List.map e_api_Edge x9) (List.map e_api_Edge x12) 58 [(.msl 3 lo11 0 (List.length x9)), (.fn (.func 59) [] [])] (.tup []) (by kernel_rfl) (by kernel_rfl) (w_slices_SortStableFunc_api_Edge_api_Edge lo11 x9 59 [] [] (fun y0 y1 => s_edge_Norm_3 y0 y1) (fun y0 y1 r h => w_edge_Norm_3 y0 y1 r h) _ hx13) hO (by kernel_rfl) (by kernel_rfl) ?_
  intro H hO hl14
  simp only [List.length_map] at hl14
  refine R_en ?_
  refine E_has (l := [(4, (.msl 3 lo11 0 (List.length x12)))]) ⟨[(4, (.msl 3 lo11 0 (List.length x9)))], by kernel_rfl, rfl, ⟨SubV.eq (by simp [hl14]), trivial⟩⟩ ?_
  refine E_done (thenA_normal (?_))
  refine C_sq ?_
  refine C_rg ttOk 6 ?_
  refine R_freezeO (e := e_api_Edge) x12 0 4 3 lo11 (List.length x12) [] (by kernel_rfl) hO (by kernel_rfl) (by kernel_rfl) (by kernel_rfl) (by kernel_rfl) ?_
  intro H hO
  refine R_pu 1 ?_
  obtain ⟨x15, hx16, h0⟩ := bindE h0
  refine R_cO 63 [(eL e_api_Edge x12), (.fn (.func 64) [] [])] (.tup [(eL e_api_Edge x15.1), (eInt .i64 x15.2)]) (w_edge_mapped x12 64 [] [] (fun y0 => s_edge_Norm_4 y0) (fun y0 r h => w_edge_Norm_4 y0 r h) _ hx16) hO ?_
  intro H hO
  refine R_al ?_
  refine E_tn [(2, (eL e_api_Edge x15.1)), (3, (eInt .i64 x15.2))] ?_
  refine C_rt ?_
  refine E_hk [(2, (eL e_api_Edge x15.1)), (3, (eInt .i64 x15.2))] ?_
  obtain rfl := Option.some.inj h0
  exact E_done (Q_ret (x := (.tup [(eL e_api_Edge x15.1), (eInt .i64 x15.2)])) (by kernel_rfl) (SubV.refl _) ⟨rfl, hO.out⟩)

theorem w_ref06_Same (a0 : (List api_Value)) (b1 : (List api_Value)) (r : Bool) (h0 : s_ref06_Same a0 b1 = some r) : Fine Try.prog 48 [(eL e_api_Value a0), (eL e_api_Value b1)] (eBool r) := by
  intro H0
  refine F_walk Try.func48 (by kernel_rfl) (by kernel_rfl) (by kernel_rfl) ?_
  have hO := Owns.start H0
  unfold s_ref06_Same at h0
  refine C_sq ?_
  refine C_rg ttOk 1 ?_
  refine R_al ?_
  refine E_tn [(0, (eL e_api_Value a0)), (1, (eL e_api_Value b1))] ?_
  refine C_sq ?_
  refine C_sq ?_
  refine C_rg ttOk 5 ?_
  refine R_al ?_
  refine E_tn [(0, (eL e_api_Value a0)), (1, (eL e_api_Value b1)), (10, (eBool (!decide (((List.length a0 : Nat) : Int) = ((List.length b1 : Nat) : Int)))))] ?_
  refine C_cn (!decide (((List.length a0 : Nat) : Int) = ((List.length b1 : Nat) : Int))) (fun hc1 => ?_) (fun hc1 => ?_)
  · replace h0 := condT hc1 h0
    refine C_sq ?_
    refine C_rg ttOk 1 ?_
    refine R_al ?_
    refine E_tn [(4, (eBool false))] ?_
    refine C_rt ?_
    refine E_hk [(4, (eBool false))] ?_
    obtain rfl := Option.some.inj h0
    exact E_done (thenA_ret (Q_ret (x := (eBool false)) (by kernel_rfl) (SubV.refl _) ⟨rfl, hO.out⟩))
  replace h0 := condF hc1 h0
  refine C_sk ?_
  refine E_tn [(0, (eL e_api_Value a0)), (1, (eL e_api_Value b1))] ?_
  refine C_seqJ (by kernel_rfl) (fun T H => Has T [] ∧ Owns ⟨H0, [], []⟩ H [] ∧ ref06_Same_j1  = some r) ?_ ?_
  · clear hO h0
    rintro T H ⟨hT, hO, h0⟩
    refine C_has hT ?_
    clear hT
    unfold ref06_Same_j1 at h0
    refine C_sq ?_
    refine C_rg ttOk 1 ?_
    refine R_al ?_
    refine E_tn [(4, (eBool true))] ?_
    refine C_rt ?_
    refine E_hk [(4, (eBool true))] ?_
    obtain rfl := Option.some.inj h0
    exact E_done (Q_ret (x := (eBool true)) (by kernel_rfl) (SubV.refl _) ⟨rfl, hO.out⟩)
  refine C_sq ?_
  refine C_rg ttOk 1 ?_
  refine R_al ?_
  refine E_tn [(0, (eL e_api_Value a0)), (1, (eL e_api_Value b1)), (5, (eInt .i64 (0 : Int)))] ?_
  refine C_bk 0 ?_
  refine C_hk [(0, (eL e_api_Value a0)), (1, (eL e_api_Value b1)), (5, (eInt .i64 (0 : Int)))] ?_
  refine C_cut (fun T H => ∃ i5 : Int, Has T [(0, (eL e_api_Value a0)), (1, (eL e_api_Value b1)), (5, (eInt .i64 i5))] ∧ Owns ⟨H0, [], []⟩ H [] ∧ ref06_Same_h2 a0 b1 i5 = some r) ?_ ⟨(0 : Int), .eq (by kernel_rfl), hO, h0⟩
  clear hO h0
  rintro T H ⟨i5, hT, hO, h0⟩
  refine C_has hT ?_
  clear hT
  unfold ref06_Same_h2 at h0
  obtain ⟨rr0, hl0, h0⟩ := bindE h0
  refine C_loopS (by kernel_rfl) (fun (s : Int) T H => Has T [(0, (eL e_api_Value a0)), (1, (eL e_api_Value b1)), (5, (eInt .i64 s))] ∧ Owns ⟨H0, [], []⟩ H []) hl0 ⟨.eq (by kernel_rfl), hO⟩ ?_
  clear hO
  rintro k0 s out1 T H ⟨hT, hO⟩ h1 ho0
  obtain ⟨i5, rfl⟩ : ∃ x, x = s := ⟨_, rfl⟩
  replace h1 : ref06_Same_l2 a0 b1 i5 = some out1 := h1
  refine C_has (l := [(0, (eL e_api_Value a0)), (1, (eL e_api_Value b1)), (5, (eInt .i64 i5))]) hT ?_
  clear hT
  unfold ref06_Same_l2 at h1
  refine C_sq ?_
  refine C_sq ?_
  refine C_rg ttOk 4 ?_
  refine R_al ?_
  refine E_tn [(0, (eL e_api_Value a0)), (1, (eL e_api_Value b1)), (5, (eInt .i64 i5)), (14, (eBool (decide (i5 < ((List.length a0 : Nat) : Int)))))] ?_
  refine C_cn (decide (i5 < ((List.length a0 : Nat) : Int))) (fun hc2 => ?_) (fun hc2 => ?_)
  · replace h1 := condT hc2 h1
    refine C_sk ?_
    refine E_tn [(0, (eL e_api_Value a0)), (1, (eL e_api_Value b1)), (5, (eInt .i64 i5))] ?_
    refine C_sq ?_
    refine C_bk 1 ?_
    refine C_sq ?_
    refine A_cl (C_draw (pl := plOf [20, 24]) ttOk (by kernel_rfl) (n := 9) (by kernel_rfl) (by kernel_rfl) (by kernel_rfl) ?_)
    obtain ⟨c3, h1⟩ := asrtE h1
    obtain ⟨c4, h1⟩ := asrtE h1
    refine D_all (Ds := [0 ≤ i5 ∧ i5 < ((List.length a0 : Nat) : Int), 0 ≤ i5 ∧ i5 < ((List.length b1 : Nat) : Int)]) (by kernel_rfl) ⟨c3, c4, trivial⟩ ?_
    refine E_tn [(0, (eL e_api_Value a0)), (1, (eL e_api_Value b1)), (5, (eInt .i64 i5)), (25, (eBool (!((decide (((List.getD a0 (Int.toNat i5) default).Kind) = ((List.getD b1 (Int.toNat i5) default).Kind))) && ((decide (((List.getD a0 (Int.toNat i5) default).Num) = ((List.getD b1 (Int.toNat i5) default).Num))) && ((strEq ((List.getD a0 (Int.toNat i5) default).Text) ((List.getD b1 (Int.toNat i5) default).Text)) && true))))))] ?_
    refine C_cn (!((decide (((List.getD a0 (Int.toNat i5) default).Kind) = ((List.getD b1 (Int.toNat i5) default).Kind))) && ((decide (((List.getD a0 (Int.toNat i5) default).Num) = ((List.getD b1 (Int.toNat i5) default).Num))) && ((strEq ((List.getD a0 (Int.toNat i5) default).Text) ((List.getD b1 (Int.toNat i5) default).Text)) && true)))) (fun hc5 => ?_) (fun hc5 => ?_)
    · replace h1 := condT hc5 h1
      refine C_sq ?_
      refine C_rg ttOk 1 ?_
      refine R_al ?_
      refine E_tn [(4, (eBool false))] ?_
      refine C_rt ?_
      refine E_hk [(4, (eBool false))] ?_
      obtain rfl := Option.some.inj h1
      obtain rfl : _ = rr0 := ho0
      replace h0 : some false = some r := h0
      obtain rfl := Option.some.inj h0
      exact E_done (blockA_ret (thenA_ret (thenA_ret (blockA_ret (thenA_ret (Q_ret (x := (eBool false)) (by kernel_rfl) (SubV.refl _) ⟨rfl, hO.out⟩))))))
    replace h1 := condF hc5 h1
    refine C_sk ?_
    refine E_hk [(0, (eL e_api_Value a0)), (1, (eL e_api_Value b1)), (5, (eInt .i64 i5))] ?_
    refine E_done (blockA_normal (thenA_normal (?_)))
    refine C_rg ttOk 3 ?_
    refine R_al ?_
    refine E_hk [(0, (eL e_api_Value a0)), (1, (eL e_api_Value b1)), (5, (eInt .i64 (IntKind.i64.wrap (i5 + (1 : Int)))))] ?_
    exact E_done (thenA_normal (⟨rfl, IntKind.i64.wrap (i5 + (1 : Int)), (Option.some.inj h1).symm, .eq (by kernel_rfl), hO⟩))
  replace h1 := condF hc2 h1
  refine C_ex 0 ?_
  refine E_hk [] ?_
  obtain rfl := Option.some.inj h1
  obtain rfl : _ = rr0 := ho0
  replace h0 : ref06_Same_j1  = some r := h0
  exact E_done (thenA_exit (thenA_exit (blockA_hit (thenA_normal (⟨rfl, .eq (by kernel_rfl), hO, h0⟩)))))

end Go.Abs
namespace Go.Abs
open Go Go.RowKit Go.Proofs
theorem w_ref10_Same (a0 : (List api_Edge)) (b1 : (List api_Edge)) (r : Bool) (h0 : s_ref10_Same a0 b1 = some r) : Fine Try.prog 16 [(eL e_api_Edge a0), (eL e_api_Edge b1)] (eBool r) := by
  intro H0
  refine F_walk Try.func16 (by kernel_rfl) (by kernel_rfl) (by kernel_rfl) ?_
  have hO := Owns.start H0
  unfold s_ref10_Same at h0
  refine C_sq ?_
  refine C_rg ttOk 1 ?_
  refine R_al ?_
  refine E_tn [(0, (eL e_api_Edge a0)), (1, (eL e_api_Edge b1))] ?_
  refine C_sq ?_
  refine C_sq ?_
  refine C_rg ttOk 5 ?_
  refine R_al ?_
  refine E_tn [(0, (eL e_api_Edge a0)), (1, (eL e_api_Edge b1)), (10, (eBool (!decide (((List.length a0 : Nat) : Int) = ((List.length b1 : Nat) : Int)))))] ?_
  refine C_cn (!decide (((List.length a0 : Nat) : Int) = ((List.length b1 : Nat) : Int))) (fun hc1 => ?_) (fun hc1 => ?_)
  · replace h0 := condT hc1 h0
    refine C_sq ?_
    refine C_rg ttOk 1 ?_
    refine R_al ?_
    refine E_tn [(4, (eBool false))] ?_
    refine C_rt ?_
    refine E_hk [(4, (eBool false))] ?_
    obtain rfl := Option.some.inj h0
    exact E_done (thenA_ret (Q_ret (x := (eBool false)) (by kernel_rfl) (SubV.refl _) ⟨rfl, hO.out⟩))
  replace h0 := condF hc1 h0
  refine C_sk ?_
  refine E_tn [(0, (eL e_api_Edge a0)), (1, (eL e_api_Edge b1))] ?_
  refine C_seqJ (by kernel_rfl) (fun T H => Has T [] ∧ Owns ⟨H0, [], []⟩ H [] ∧ ref10_Same_j1  = some r) ?_ ?_
  · clear hO h0
    rintro T H ⟨hT, hO, h0⟩
    refine C_has hT ?_
    clear hT
    unfold ref10_Same_j1 at h0
    refine C_sq ?_
    refine C_rg ttOk 1 ?_
    refine R_al ?_
    refine E_tn [(4, (eBool true))] ?_
    refine C_rt ?_
    refine E_hk [(4, (eBool true))] ?_
    obtain rfl := Option.some.inj h0
    exact E_done (Q_ret (x := (eBool true)) (by kernel_rfl) (SubV.refl _) ⟨rfl, hO.out⟩)
  refine C_sq ?_
  refine C_rg ttOk 1 ?_
  refine R_al ?_
  refine E_tn [(0, (eL e_api_Edge a0)), (1, (eL e_api_Edge b1)), (5, (eInt .i64 (0 : Int)))] ?_
  refine C_bk 0 ?_
  refine C_hk [(0, (eL e_api_Edge a0)), (1, (eL e_api_Edge b1)), (5, (eInt .i64 (0 : Int)))] ?_
  refine C_cut (fun T H => ∃ i5 : Int, Has T [(0, (eL e_api_Edge a0)), (1, (eL e_api_Edge b1)), (5, (eInt .i64 i5))] ∧ Owns ⟨H0, [], []⟩ H [] ∧ ref10_Same_h2 a0 b1 i5 = some r) ?_ ⟨(0 : Int), .eq (by kernel_rfl), hO, h0⟩
  clear hO h0
  rintro T H ⟨i5, hT, hO, h0⟩
  refine C_has hT ?_
  clear hT
  unfold ref10_Same_h2 at h0
  obtain ⟨rr0, hl0, h0⟩ := bindE h0
  refine C_loopS (by kernel_rfl) (fun (s : Int) T H => Has T [(0, (eL e_api_Edge a0)), (1, (eL e_api_Edge b1)), (5, (eInt .i64 s))] ∧ Owns ⟨H0, [], []⟩ H []) hl0 ⟨.eq (by kernel_rfl), hO⟩ ?_
  clear hO
  rintro k0 s out1 T H ⟨hT, hO⟩ h1 ho0
  obtain ⟨i5, rfl⟩ : ∃ x, x = s := ⟨_, rfl⟩
  replace h1 : ref10_Same_l2 a0 b1 i5 = some out1 := h1
  refine C_has (l := [(0, (eL e_api_Edge a0)), (1, (eL e_api_Edge b1)), (5, (eInt .i64 i5))]) hT ?_
  clear hT
  unfold ref10_Same_l2 at h1
  refine C_sq ?_
  refine C_sq ?_
  refine C_rg ttOk 4 ?_
  refine R_al ?_
  refine E_tn [(0, (eL e_api_Edge a0)), (1, (eL e_api_Edge b1)), (5, (eInt .i64 i5)), (14, (eBool (decide (i5 < ((List.length a0 : Nat) : Int)))))] ?_
  refine C_cn (decide (i5 < ((List.length a0 : Nat) : Int))) (fun hc2 => ?_) (fun hc2 => ?_)
  · replace h1 := condT hc2 h1
    refine C_sk ?_
    refine E_tn [(0, (eL e_api_Edge a0)), (1, (eL e_api_Edge b1)), (5, (eInt .i64 i5))] ?_
    refine C_sq ?_
    refine C_bk 1 ?_
    refine C_sq ?_
    obtain ⟨c3, h1⟩ := asrtE h1
    obtain ⟨c4, h1⟩ := asrtE h1
    obtain ⟨c5, h1⟩ := asrtE h1
    obtain ⟨c6, h1⟩ := asrtE h1
    obtain ⟨c7, h1⟩ := asrtE h1
    obtain ⟨c8, h1⟩ := asrtE h1
    obtain ⟨x9, hx10, h1⟩ := bindE h1
    refine A_cl (C_draw (pl := plOf [21, 26, 33, 38, 46, 51]) ttOk (by kernel_rfl) (n := 38) (by kernel_rfl) (by kernel_rfl) (by kernel_rfl) ?_)
    refine D_mono (K := fun T H => Has (lift T) [(0, (eL e_api_Edge a0)), (1, (eL e_api_Edge b1)), (5, (eInt .i64 i5)), (54, (eBool (((!decide (((List.getD a0 (Int.toNat i5) default).At) = ((List.getD b1 (Int.toNat i5) default).At))) || (!decide (((List.getD a0 (Int.toNat i5) default).Net) = ((List.getD b1 (Int.toNat i5) default).Net)))) || (!x9))))] ∧ Owns ⟨H0, [], []⟩ H []) ?_ ?_
    · refine D_pure 12 (by kernel_rfl) (Ds := [0 ≤ i5 ∧ i5 < ((List.length a0 : Nat) : Int), 0 ≤ i5 ∧ i5 < ((List.length b1 : Nat) : Int)]) (by kernel_rfl) ⟨c3, c4, trivial⟩ ?_
      refine D_split (t := 28) (e := !decide (((List.getD a0 (Int.toNat i5) default).At) = ((List.getD b1 (Int.toNat i5) default).At))) (by kernel_rfl) (fun hg11 => ?_) (fun hg11 => ?_)
      · refine D_al ?_
        exact ⟨⟨[(0, (eL e_api_Edge a0)), (1, (eL e_api_Edge b1)), (5, (eInt .i64 i5)), (54, (eBool true))], by kernel_rfl, rfl, ⟨SubV.refl _, SubV.refl _, SubV.refl _, SubV.eq (by first | (simp only [eBool, hg11, Bool.not_true, Bool.not_false, Bool.true_and, Bool.and_true, Bool.false_and, Bool.and_false, Bool.or_true, Bool.true_or, Bool.or_false, Bool.false_or, cond_true, cond_false]; done) | simp [eBool, hg11]), trivial⟩⟩, hO⟩
      refine D_pure 25 (by kernel_rfl) (Ds := [0 ≤ i5 ∧ i5 < ((List.length a0 : Nat) : Int), 0 ≤ i5 ∧ i5 < ((List.length b1 : Nat) : Int)]) (by kernel_rfl) ⟨(c5 (by first | (simp only [hg11, Bool.not_true, Bool.not_false, Bool.true_and, Bool.and_true, Bool.false_and, Bool.and_false, Bool.or_true, Bool.true_or, Bool.or_false, Bool.false_or, cond_true, cond_false]; done) | simp [hg11])), (c6 (by first | (simp only [hg11, Bool.not_true, Bool.not_false, Bool.true_and, Bool.and_true, Bool.false_and, Bool.and_false, Bool.or_true, Bool.true_or, Bool.or_false, Bool.false_or, cond_true, cond_false]; done) | simp [hg11])), trivial⟩ ?_
      refine D_split (t := 41) (e := !decide (((List.getD a0 (Int.toNat i5) default).Net) = ((List.getD b1 (Int.toNat i5) default).Net))) (by kernel_rfl) (fun hg12 => ?_) (fun hg12 => ?_)
      · refine D_al ?_
        exact ⟨⟨[(0, (eL e_api_Edge a0)), (1, (eL e_api_Edge b1)), (5, (eInt .i64 i5)), (54, (eBool true))], by kernel_rfl, rfl, ⟨SubV.refl _, SubV.refl _, SubV.refl _, SubV.eq (by first | (simp only [eBool, hg11, hg12, Bool.not_true, Bool.not_false, Bool.true_and, Bool.and_true, Bool.false_and, Bool.and_false, Bool.or_true, Bool.true_or, Bool.or_false, Bool.false_or, cond_true, cond_false]; done) | simp [eBool, hg11, hg12]), trivial⟩⟩, hO⟩
      refine D_pure 35 (by kernel_rfl) (Ds := [0 ≤ i5 ∧ i5 < ((List.length a0 : Nat) : Int), 0 ≤ i5 ∧ i5 < ((List.length b1 : Nat) : Int)]) (by kernel_rfl) ⟨(c7 (by first | (simp only [hg11, hg12, Bool.not_true, Bool.not_false, Bool.true_and, Bool.and_true, Bool.false_and, Bool.and_false, Bool.or_true, Bool.true_or, Bool.or_false, Bool.false_or, cond_true, cond_false]; done) | simp [hg11, hg12])), (c8 (by first | (simp only [hg11, hg12, Bool.not_true, Bool.not_false, Bool.true_and, Bool.and_true, Bool.false_and, Bool.and_false, Bool.or_true, Bool.true_or, Bool.or_false, Bool.false_or, cond_true, cond_false]; done) | simp [hg11, hg12])), trivial⟩ ?_
      refine D_callV 48 [(eL e_api_Value ((List.getD a0 (Int.toNat i5) default).Row)), (eL e_api_Value ((List.getD b1 (Int.toNat i5) default).Row))] (eBool x9) (by kernel_rfl) (by kernel_rfl) (w_ref06_Same ((List.getD a0 (Int.toNat i5) default).Row) ((List.getD b1 (Int.toNat i5) default).Row) _ (gcallE hx10 (by first | (simp only [hg11, hg12, Bool.not_true, Bool.not_false, Bool.true_and, Bool.and_true, Bool.false_and, Bool.and_false, Bool.or_true, Bool.true_or, Bool.or_false, Bool.false_or, cond_true, cond_false]; done) | simp [hg11, hg12]))) hO ?_
      intro H hO
      refine D_al ?_
      exact ⟨⟨[(0, (eL e_api_Edge a0)), (1, (eL e_api_Edge b1)), (5, (eInt .i64 i5)), (54, (eBool (!x9)))], by kernel_rfl, rfl, ⟨SubV.refl _, SubV.refl _, SubV.refl _, SubV.eq (by first | (simp only [eBool, hg11, hg12, Bool.not_true, Bool.not_false, Bool.true_and, Bool.and_true, Bool.false_and, Bool.and_false, Bool.or_true, Bool.true_or, Bool.or_false, Bool.false_or, cond_true, cond_false]; done) | simp [eBool, hg11, hg12]), trivial⟩⟩, hO⟩
    · rintro T H ⟨hT, hO⟩
      refine E_has hT ?_
      clear hT
      refine E_tn [(0, (eL e_api_Edge a0)), (1, (eL e_api_Edge b1)), (5, (eInt .i64 i5)), (54, (eBool (((!decide (((List.getD a0 (Int.toNat i5) default).At) = ((List.getD b1 (Int.toNat i5) default).At))) || (!decide (((List.getD a0 (Int.toNat i5) default).Net) = ((List.getD b1 (Int.toNat i5) default).Net)))) || (!x9))))] ?_
      refine C_cn (((!decide (((List.getD a0 (Int.toNat i5) default).At) = ((List.getD b1 (Int.toNat i5) default).At))) || (!decide (((List.getD a0 (Int.toNat i5) default).Net) = ((List.getD b1 (Int.toNat i5) default).Net)))) || (!x9)) (fun hc13 => ?_) (fun hc13 => ?_)
      · replace h1 := condT hc13 h1
        refine C_sq ?_
        refine C_rg ttOk 1 ?_
        refine R_al ?_
        refine E_tn [(4, (eBool false))] ?_
        refine C_rt ?_
        refine E_hk [(4, (eBool false))] ?_
        obtain rfl := Option.some.inj h1
        obtain rfl : _ = rr0 := ho0
        replace h0 : some false = some r := h0
        obtain rfl := Option.some.inj h0
        exact E_done (blockA_ret (thenA_ret (thenA_ret (blockA_ret (thenA_ret (Q_ret (x := (eBool false)) (by kernel_rfl) (SubV.refl _) ⟨rfl, hO.out⟩))))))
      replace h1 := condF hc13 h1
      refine C_sk ?_
      refine E_hk [(0, (eL e_api_Edge a0)), (1, (eL e_api_Edge b1)), (5, (eInt .i64 i5))] ?_
      refine E_done (blockA_normal (thenA_normal (?_)))
      refine C_rg ttOk 3 ?_
      refine R_al ?_
      refine E_hk [(0, (eL e_api_Edge a0)), (1, (eL e_api_Edge b1)), (5, (eInt .i64 (IntKind.i64.wrap (i5 + (1 : Int)))))] ?_
      exact E_done (thenA_normal (⟨rfl, IntKind.i64.wrap (i5 + (1 : Int)), (Option.some.inj h1).symm, .eq (by kernel_rfl), hO⟩))
  replace h1 := condF hc2 h1
  refine C_ex 0 ?_
  refine E_hk [] ?_
  obtain rfl := Option.some.inj h1
  obtain rfl : _ = rr0 := ho0
  replace h0 : ref10_Same_j1  = some r := h0
  exact E_done (thenA_exit (thenA_exit (blockA_hit (thenA_normal (⟨rfl, .eq (by kernel_rfl), hO, h0⟩)))))

theorem w_span_tick (t0 : Int) (r : Bool) (h0 : s_span_tick t0 = some r) : Fine Try.prog 110 [(eInt .i64 t0)] (eBool r) := by
  intro H0
  refine F_walk Try.func110 (by kernel_rfl) (by kernel_rfl) (by kernel_rfl) ?_
  have hO := Owns.start H0
  unfold s_span_tick at h0
  refine C_sq ?_
  refine C_rg ttOk 1 ?_
  refine R_al ?_
  refine E_tn [(0, (eInt .i64 t0))] ?_
  refine C_sq ?_
  refine C_rg ttOk 7 ?_
  refine R_al ?_
  refine E_tn [(2, (eBool ((decide ((0 : Int) ≤ t0)) && (decide (t0 ≤ (1125899906842624 : Int))))))] ?_
  refine C_rt ?_
  refine E_hk [(2, (eBool ((decide ((0 : Int) ≤ t0)) && (decide (t0 ≤ (1125899906842624 : Int))))))] ?_
  obtain rfl := Option.some.inj h0
  exact E_done (Q_ret (x := (eBool ((decide ((0 : Int) ≤ t0)) && (decide (t0 ≤ (1125899906842624 : Int)))))) (by kernel_rfl) (SubV.refl _) ⟨rfl, hO.out⟩)

theorem w_span_May (s0 : api_Span) (r : Bool) (h0 : s_span_May s0 = some r) : Fine Try.prog 81 [(e_api_Span s0)] (eBool r) := by
  intro H0
  refine F_walk Try.func81 (by kernel_rfl) (by kernel_rfl) (by kernel_rfl) ?_
  have hO := Owns.start H0
  unfold s_span_May at h0
  refine C_sq ?_
  refine C_rg ttOk 2 ?_
  refine R_boxF 2 (e_api_Span s0) (by kernel_rfl) (by kernel_rfl) ?_
  refine R_al ?_
  refine E_tn [(1, (.rp (e_api_Span s0)))] ?_
  refine C_sq ?_
  refine C_rg ttOk 16 ?_
  refine R_pu 2 ?_
  obtain ⟨x1, hx2, h0⟩ := bindE h0
  refine R_cO 110 [(eInt .i64 s0.From)] (eBool x1) (w_span_tick s0.From _ hx2) hO ?_
  intro H hO
  refine R_pu 6 ?_
  obtain ⟨x4, hx5, h0⟩ := bindE h0
  refine R_callO [(6, true)] 110 [(eInt .i64 s0.To)] (eBool x4) x1 (by kernel_rfl) (by kernel_rfl) (by kernel_rfl) (fun hb6 => (w_span_tick s0.To _ (gcallE hx5 hb6))) hO ?_
  intro H hO
  refine R_al ?_
  refine E_tn [(2, (eBool ((x1 && x4) && (decide (s0.From < s0.To)))))] ?_
  refine C_rt ?_
  refine E_hk [(2, (eBool ((x1 && x4) && (decide (s0.From < s0.To)))))] ?_
  obtain rfl := Option.some.inj h0
  exact E_done (Q_ret (x := (eBool ((x1 && x4) && (decide (s0.From < s0.To))))) (by kernel_rfl) (SubV.refl _) ⟨rfl, hO.out⟩)

theorem w_edge_Of (r0 : (List api_Value)) (s1 : api_Span) (r : ((List api_Edge) × Int)) (h0 : s_edge_Of r0 s1 = some r) : Fine Try.prog 39 [(eL e_api_Value r0), (e_api_Span s1)] (.tup [(eL e_api_Edge r.1), (eInt .i64 r.2)]) := by
  intro H0
  refine F_walk Try.func39 (by kernel_rfl) (by kernel_rfl) (by kernel_rfl) ?_
  have hO := Owns.start H0
  unfold s_edge_Of at h0
  refine C_sq ?_
  refine C_rg ttOk 3 ?_
  refine R_boxF 2 (e_api_Span s1) (by kernel_rfl) (by kernel_rfl) ?_
  refine R_al ?_
  refine E_tn [(0, (eL e_api_Value r0)), (3, (.rp (e_api_Span s1)))] ?_
  refine C_sq ?_
  refine C_bk 0 ?_
  refine C_sq ?_
  refine C_rg ttOk 4 ?_
  refine R_pu 1 ?_
  obtain ⟨x1, hx2, h0⟩ := bindE h0
  refine R_cO 55 [(eL e_api_Value r0)] (eBool x1) (w_row_May r0 _ hx2) hO ?_
  intro H hO
  refine R_al ?_
  refine E_tn [(0, (eL e_api_Value r0)), (3, (.rp (e_api_Span s1))), (6, (eBool (!x1)))] ?_
  refine C_cn (!x1) (fun hc4 => ?_) (fun hc4 => ?_)
  · replace h0 := condT hc4 h0
    refine C_sq ?_
    refine C_rg ttOk 2 ?_
    refine R_al ?_
    refine E_tn [(4, (.sl true 0 (fun _ => .bad))), (5, (eInt .i64 (2 : Int)))] ?_
    refine C_rt ?_
    refine E_has (l := [(4, (eL e_api_Edge ([]))), (5, (eInt .i64 (2 : Int)))]) ⟨[(4, (.sl true 0 (fun _ => .bad))), (5, (eInt .i64 (2 : Int)))], by kernel_rfl, rfl, ⟨subNilL, SubV.refl _, trivial⟩⟩ ?_
    obtain rfl := Option.some.inj h0
    exact E_done (blockA_ret (thenA_ret (Q_ret (x := (.tup [(eL e_api_Edge ([])), (eInt .i64 (2 : Int))])) (by kernel_rfl) (SubV.refl _) ⟨rfl, hO.out⟩)))
  replace h0 := condF hc4 h0
  refine C_sq ?_
  refine C_rg ttOk 4 ?_
  refine R_pu 1 ?_
  obtain ⟨x5, hx6, h0⟩ := bindE h0
  refine R_cO 81 [(e_api_Span s1)] (eBool x5) (w_span_May s1 _ hx6) hO ?_
  intro H hO
  refine R_al ?_
  refine E_tn [(0, (eL e_api_Value r0)), (3, (.rp (e_api_Span s1))), (10, (eBool (!x5)))] ?_
  refine C_cn (!x5) (fun hc8 => ?_) (fun hc8 => ?_)
  · replace h0 := condT hc8 h0
    refine C_sq ?_
    refine C_rg ttOk 2 ?_
    refine R_al ?_
    refine E_tn [(4, (.sl true 0 (fun _ => .bad))), (5, (eInt .i64 (14 : Int)))] ?_
    refine C_rt ?_
    refine E_has (l := [(4, (eL e_api_Edge ([]))), (5, (eInt .i64 (14 : Int)))]) ⟨[(4, (.sl true 0 (fun _ => .bad))), (5, (eInt .i64 (14 : Int)))], by kernel_rfl, rfl, ⟨subNilL, SubV.refl _, trivial⟩⟩ ?_
    obtain rfl := Option.some.inj h0
    exact E_done (blockA_ret (thenA_ret (Q_ret (x := (.tup [(eL e_api_Edge ([])), (eInt .i64 (14 : Int))])) (by kernel_rfl) (SubV.refl _) ⟨rfl, hO.out⟩)))
  replace h0 := condF hc8 h0
  refine C_sk ?_
  refine E_hk [(0, (eL e_api_Value r0)), (3, (.rp (e_api_Span s1)))] ?_
  refine E_done (blockA_normal (thenA_normal (?_)))
  refine C_sq ?_
  refine C_rg ttOk 14 ?_
  refine R_pu 8 ?_
  refine R_bsl (xs := [(e_api_Edge (api_Edge.mk r0 s1.From (1 : Int))), (e_api_Edge (api_Edge.mk r0 s1.To (-1 : Int)))]) (k := 3) (by kernel_rfl) (by kernel_rfl) ?_
  obtain ⟨x9, hx10, h0⟩ := bindE h0
  refine R_cO 23 [(frozenOf [(e_api_Edge (api_Edge.mk r0 s1.From (1 : Int))), (e_api_Edge (api_Edge.mk r0 s1.To (-1 : Int)))])] (.tup [(eL e_api_Edge x9.1), (eInt .i64 x9.2)]) (Fine.sub (w_edge_Norm ([api_Edge.mk r0 s1.From (1 : Int), api_Edge.mk r0 s1.To (-1 : Int)]) _ hx10) ⟨subLit (l := [api_Edge.mk r0 s1.From (1 : Int), api_Edge.mk r0 s1.To (-1 : Int)]), trivial⟩) hO ?_
  intro H hO
  refine R_al ?_
  refine E_tn [(4, (eL e_api_Edge x9.1)), (5, (eInt .i64 x9.2))] ?_
  refine C_rt ?_
  refine E_hk [(4, (eL e_api_Edge x9.1)), (5, (eInt .i64 x9.2))] ?_
  obtain rfl := Option.some.inj h0
  exact E_done (Q_ret (x := (.tup [(eL e_api_Edge x9.1), (eInt .i64 x9.2)])) (by kernel_rfl) (SubV.refl _) ⟨rfl, hO.out⟩)

theorem w_slices_Grow_api_Edge_api_Edge (n1 : Int) (r : (List api_Edge)) (h0 : s_slices_Grow_api_Edge_api_Edge n1 = some r) : FineO Try.prog 107 [(.sl true 0 (fun _ => .bad)), (eInt .i64 n1)] (fun lo => (.msl 3 lo 0 (List.length r))) 3 (List.map e_api_Edge r) := by
  intro H0
  refine F_walk Try.func107 (by kernel_rfl) (by kernel_rfl) (by kernel_rfl) ?_
  have hO := Owns.start H0
  unfold s_slices_Grow_api_Edge_api_Edge at h0
  refine C_sq ?_
  refine C_rg ttOk 1 ?_
  refine R_al ?_
  refine E_tn [(0, (.sl true 0 (fun _ => .bad))), (1, (eInt .i64 n1))] ?_
  refine C_sq ?_
  refine C_sq ?_
  refine C_rg ttOk 2 ?_
  refine R_al ?_
  refine E_tn [(0, (.sl true 0 (fun _ => .bad))), (1, (eInt .i64 n1)), (6, (eBool (decide (n1 < (0 : Int)))))] ?_
  refine C_cn (decide (n1 < (0 : Int))) (fun hc1 => ?_) (fun hc1 => ?_)
  · replace h0 := condT hc1 h0
    cases h0
  replace h0 := condF hc1 h0
  refine C_sk ?_
  refine E_tn [(0, (.sl true 0 (fun _ => .bad))), (1, (eInt .i64 n1))] ?_
  refine C_seqJ (by kernel_rfl) (fun T H => ∃ s0 : List api_Edge, ∃ lo2 : Nat, Has T [(0, (.msl 3 lo2 0 (List.length s0)))] ∧ Owns ⟨H0, [], []⟩ H [(lo2, 3, List.map e_api_Edge s0)] ∧ slices_Grow_api_Edge_api_Edge_j1 s0 = some r) ?_ ?_
  · clear hO h0
    rintro T H ⟨s0, lo2, hT, hO, h0⟩
    refine C_has hT ?_
    clear hT
    unfold slices_Grow_api_Edge_api_Edge_j1 at h0
    refine C_sq ?_
    refine C_rg ttOk 2 ?_
    refine R_al ?_
    refine E_tn [(4, (.msl 3 lo2 0 (List.length s0)))] ?_
    refine C_rt ?_
    refine E_hk [(4, (.msl 3 lo2 0 (List.length s0)))] ?_
    obtain rfl := Option.some.inj h0
    exact E_done (Q_ret (x := (.msl 3 lo2 0 (List.length s0))) (by kernel_rfl) (SubV.refl _) ⟨lo2, rfl, hO⟩)
  refine C_sq ?_
  refine C_rg ttOk 8 ?_
  refine R_al ?_
  refine E_tn [(0, (.sl true 0 (fun _ => .bad))), (1, (eInt .i64 (IntKind.i64.wrap (n1 - (IntKind.i64.wrap ((0 : Int) - ((0 : Nat) : Int)))))))] ?_
  refine C_sq ?_
  refine C_rg ttOk 2 ?_
  refine R_al ?_
  refine E_tn [(0, (.sl true 0 (fun _ => .bad))), (1, (eInt .i64 (IntKind.i64.wrap (n1 - (IntKind.i64.wrap ((0 : Int) - ((0 : Nat) : Int))))))), (16, (eBool (decide ((0 : Int) < (IntKind.i64.wrap (n1 - (IntKind.i64.wrap ((0 : Int) - ((0 : Nat) : Int)))))))))] ?_
  refine C_cn (decide ((0 : Int) < (IntKind.i64.wrap (n1 - (IntKind.i64.wrap ((0 : Int) - ((0 : Nat) : Int))))))) (fun hc3 => ?_) (fun hc3 => ?_)
  · replace h0 := condT hc3 h0
    refine C_rg ttOk 10 ?_
    obtain ⟨c4, h0⟩ := asrtE h0
    refine R_pure 5 (by kernel_rfl) (Ds := [0 ≤ (0 : Int) ∧ (0 : Int) ≤ ((0 : Nat) : Int)]) (by kernel_rfl) ⟨c4, trivial⟩ ?_
    obtain ⟨c5, h0⟩ := asrtE h0
    refine R_appMakeO 3 40 (IntKind.i64.wrap (n1 - (IntKind.i64.wrap ((0 : Int) - ((0 : Nat) : Int))))) (by kernel_rfl) (by kernel_rfl) c5 hO ?_
    intro lo6 H hO
    obtain ⟨c7, h0⟩ := asrtE h0
    refine R_all (Ds := [0 ≤ ((0 : Nat) : Int) ∧ ((0 : Nat) : Int) ≤ (((Int.toNat (IntKind.i64.wrap (n1 - (IntKind.i64.wrap ((0 : Int) - ((0 : Nat) : Int)))))) : Nat) : Int)]) (by kernel_rfl) ⟨c7, trivial⟩ ?_
    refine E_hk [(0, (.msl 3 lo6 0 (List.length ([] : List api_Edge))))] ?_
    exact E_done (thenA_normal (⟨rfl, ([] : List api_Edge), lo6, .eq (by kernel_rfl), hO, h0⟩))
  replace h0 := condF hc3 h0
  refine C_sk ?_
  refine E_hk [(0, (.sl true 0 (fun _ => .bad)))] ?_
  refine E_ownO (el := (fun _ => .bad)) 0 0 3 hO (by kernel_rfl) ?_
  intro lo8 H9 hO
  exact E_done (thenA_normal (⟨rfl, ([] : List api_Edge), lo8, .eq (by kernel_rfl), hO, h0⟩))

theorem w_slices_Concat_api_Edge_api_Edge (slices0 : (List (List api_Edge))) (r : (List api_Edge)) (h0 : s_slices_Concat_api_Edge_api_Edge slices0 = some r) : Fine Try.prog 79 [(eL (eL e_api_Edge) slices0)] (eL e_api_Edge r) := by
  intro H0
  refine F_walk Try.func79 (by kernel_rfl) (by kernel_rfl) (by kernel_rfl) ?_
  have hO := Owns.start H0
  unfold s_slices_Concat_api_Edge_api_Edge at h0
  refine C_sq ?_
  refine C_rg ttOk 1 ?_
  refine R_al ?_
  refine E_tn [(0, (eL (eL e_api_Edge) slices0))] ?_
  refine C_sq ?_
  refine C_rg ttOk 1 ?_
  refine R_al ?_
  refine E_tn [(0, (eL (eL e_api_Edge) slices0)), (3, (eInt .i64 (0 : Int)))] ?_
  refine C_seqJ (by kernel_rfl) (fun T H => ∃ size3 : Int, Has T [(0, (eL (eL e_api_Edge) slices0)), (3, (eInt .i64 size3))] ∧ Owns ⟨H0, [], []⟩ H [] ∧ slices_Concat_api_Edge_api_Edge_j1 slices0 size3 = some r) ?_ ?_
  · clear hO h0
    rintro T H ⟨size3, hT, hO, h0⟩
    refine C_has hT ?_
    clear hT
    unfold slices_Concat_api_Edge_api_Edge_j1 at h0
    refine C_sq ?_
    refine C_rg ttOk 3 ?_
    refine R_pu 1 ?_
    obtain ⟨x1, hx2, h0⟩ := bindE h0
    refine R_callP (L' := fun lo3 => [(lo3, 3, List.map e_api_Edge x1)]) 3 (List.map e_api_Edge x1) 107 [(.sl true 0 (fun _ => .bad)), (eInt .i64 size3)] (fun lo3 => (.msl 3 lo3 0 (List.length x1))) (by kernel_rfl) (by kernel_rfl) (w_slices_Grow_api_Edge_api_Edge size3 _ hx2) hO (fun _ => by kernel_rfl) ?_
    intro lo3 H hO
    refine R_al ?_
    refine E_tn [(0, (eL (eL e_api_Edge) slices0)), (6, (.msl 3 lo3 0 (List.length x1)))] ?_
    refine C_seqJ (by kernel_rfl) (fun T H => ∃ newslice6 : List api_Edge, ∃ lo4 : Nat, Has T [(6, (.msl 3 lo4 0 (List.length newslice6)))] ∧ Owns ⟨H0, [], []⟩ H [(lo4, 3, List.map e_api_Edge newslice6)] ∧ slices_Concat_api_Edge_api_Edge_j2 newslice6 = some r) ?_ ?_
    · clear hO h0
      rintro T H ⟨newslice6, lo4, hT, hO, h0⟩
      refine C_has hT ?_
      clear hT
      unfold slices_Concat_api_Edge_api_Edge_j2 at h0
      refine C_sq ?_
      refine C_rg ttOk 2 ?_
      refine R_al ?_
      refine E_tn [(2, (.msl 3 lo4 0 (List.length newslice6)))] ?_
      refine C_rt ?_
      refine E_hk [(2, (.msl 3 lo4 0 (List.length newslice6)))] ?_
      refine E_freezeO (en := e_api_Edge) newslice6 0 0 2 3 lo4 (List.length newslice6) hO (by kernel_rfl) (by kernel_rfl) (by kernel_rfl) (L' := []) (by kernel_rfl) ?_
      intro H5 hO
      obtain rfl := Option.some.inj h0
      exact E_done (Q_ret (x := (eL e_api_Edge newslice6)) (by kernel_rfl) (SubV.refl _) ⟨rfl, hO.out⟩)
    refine C_sq ?_
    refine C_rg ttOk 3 ?_
    refine R_al ?_
    refine E_tn [(6, (.msl 3 lo3 0 (List.length x1))), (25, (eL (eL e_api_Edge) slices0)), (26, (eInt .i64 ((List.length slices0 : Nat) : Int))), (27, (eInt .i64 (0 : Int)))] ?_
    refine C_bk 2 ?_
    refine C_hk [(6, (.msl 3 lo3 0 (List.length x1))), (25, (eL (eL e_api_Edge) slices0)), (26, (eInt .i64 ((List.length slices0 : Nat) : Int))), (27, (eInt .i64 (0 : Int)))] ?_
    refine C_cut (fun T H => ∃ newslice6 : List api_Edge, ∃ t25 : (List (List api_Edge)), ∃ t26 : Int, ∃ t27 : Int, ∃ lo7 : Nat, Has T [(6, (.msl 3 lo7 0 (List.length newslice6))), (25, (eL (eL e_api_Edge) t25)), (26, (eInt .i64 t26)), (27, (eInt .i64 t27))] ∧ Owns ⟨H0, [], []⟩ H [(lo7, 3, List.map e_api_Edge newslice6)] ∧ slices_Concat_api_Edge_api_Edge_h3 newslice6 t25 t26 t27 = some r) ?_ ⟨x1, slices0, ((List.length slices0 : Nat) : Int), (0 : Int), lo3, .eq (by kernel_rfl), hO, h0⟩
    clear hO h0
    rintro T H ⟨newslice6, t25, t26, t27, lo7, hT, hO, h0⟩
    refine C_has hT ?_
    clear hT
    unfold slices_Concat_api_Edge_api_Edge_h3 at h0
    obtain ⟨rr0, hl0, h0⟩ := bindE h0
    refine C_loopS (by kernel_rfl) (fun (s : List api_Edge × Int) T H => ∃ lo7 : Nat, Has T [(6, (.msl 3 lo7 0 (List.length s.1))), (25, (eL (eL e_api_Edge) t25)), (26, (eInt .i64 t26)), (27, (eInt .i64 s.2))] ∧ Owns ⟨H0, [], []⟩ H [(lo7, 3, List.map e_api_Edge s.1)]) hl0 ⟨lo7, .eq (by kernel_rfl), hO⟩ ?_
    clear hO
    rintro k0 s out1 T H ⟨lo7, hT, hO⟩ h1 ho0
    obtain ⟨newslice6, t27⟩ := s
    replace h1 : slices_Concat_api_Edge_api_Edge_l3 t25 t26 newslice6 t27 = some out1 := h1
    refine C_has (l := [(6, (.msl 3 lo7 0 (List.length newslice6))), (25, (eL (eL e_api_Edge) t25)), (26, (eInt .i64 t26)), (27, (eInt .i64 t27))]) hT ?_
    clear hT
    unfold slices_Concat_api_Edge_api_Edge_l3 at h1
    refine C_sq ?_
    refine C_rg ttOk 1 ?_
    refine R_al ?_
    refine E_tn [(6, (.msl 3 lo7 0 (List.length newslice6))), (25, (eL (eL e_api_Edge) t25)), (26, (eInt .i64 t26)), (27, (eInt .i64 t27)), (28, (eBool (decide (t27 < t26))))] ?_
    refine C_sq ?_
    refine C_cn (decide (t27 < t26)) (fun hc8 => ?_) (fun hc8 => ?_)
    · replace h1 := condT hc8 h1
      refine C_sk ?_
      refine E_tn [(6, (.msl 3 lo7 0 (List.length newslice6))), (25, (eL (eL e_api_Edge) t25)), (26, (eInt .i64 t26)), (27, (eInt .i64 t27))] ?_
      refine C_sq ?_
      refine C_bk 3 ?_
      refine C_sq ?_
      refine C_rg ttOk 3 ?_
      obtain ⟨c9, h1⟩ := asrtE h1
      refine R_all (Ds := [0 ≤ t27 ∧ t27 < ((List.length t25 : Nat) : Int)]) (by kernel_rfl) ⟨c9, trivial⟩ ?_
      refine E_tn [(6, (.msl 3 lo7 0 (List.length newslice6))), (8, (eL e_api_Edge (List.getD t25 (Int.toNat t27) default))), (25, (eL (eL e_api_Edge) t25)), (26, (eInt .i64 t26)), (27, (eInt .i64 t27))] ?_
      refine C_rg ttOk 4 ?_
      refine R_pu 2 ?_
      obtain ⟨c11, h1⟩ := asrtE h1
      refine R_appOL (e := e_api_Edge) newslice6 (List.getD t25 (Int.toNat t27) default) 0 lo7 3 40 (eL e_api_Edge (List.getD t25 (Int.toNat t27) default)) (fun lo10 => [(lo10, 3, List.map e_api_Edge (newslice6 ++ (List.getD t25 (Int.toNat t27) default)))]) (by kernel_rfl) (by kernel_rfl) hO (by kernel_rfl) (appX_eL (fun _ => by kernel_rfl)) c11 (fun _ => by kernel_rfl) ?_
      intro lo10 H hO
      refine R_al ?_
      refine E_hk [(6, (.msl 3 lo10 0 (List.length (newslice6 ++ (List.getD t25 (Int.toNat t27) default))))), (25, (eL (eL e_api_Edge) t25)), (26, (eInt .i64 t26)), (27, (eInt .i64 t27))] ?_
      refine E_done (blockA_normal (thenA_normal (?_)))
      refine C_rg ttOk 2 ?_
      refine R_al ?_
      refine E_hk [(6, (.msl 3 lo10 0 (List.length (newslice6 ++ (List.getD t25 (Int.toNat t27) default))))), (25, (eL (eL e_api_Edge) t25)), (26, (eInt .i64 t26)), (27, (eInt .i64 (IntKind.i64.wrap (t27 + (1 : Int)))))] ?_
      exact E_done (thenA_normal (⟨rfl, (newslice6 ++ (List.getD t25 (Int.toNat t27) default), IntKind.i64.wrap (t27 + (1 : Int))), (Option.some.inj h1).symm, lo10, .eq (by kernel_rfl), hO⟩))
    replace h1 := condF hc8 h1
    refine C_ex 2 ?_
    refine E_hk [(6, (.msl 3 lo7 0 (List.length newslice6)))] ?_
    obtain rfl := Option.some.inj h1
    obtain rfl : _ = rr0 := ho0
    replace h0 : slices_Concat_api_Edge_api_Edge_j2 newslice6 = some r := h0
    exact E_done (thenA_exit (thenA_exit (blockA_hit (thenA_normal (⟨rfl, newslice6, lo7, .eq (by kernel_rfl), hO, h0⟩)))))
  refine C_sq ?_
  refine C_rg ttOk 3 ?_
  refine R_al ?_
  refine E_tn [(0, (eL (eL e_api_Edge) slices0)), (3, (eInt .i64 (0 : Int))), (9, (eL (eL e_api_Edge) slices0)), (10, (eInt .i64 ((List.length slices0 : Nat) : Int))), (11, (eInt .i64 (0 : Int)))] ?_
  refine C_bk 0 ?_
  refine C_hk [(0, (eL (eL e_api_Edge) slices0)), (3, (eInt .i64 (0 : Int))), (9, (eL (eL e_api_Edge) slices0)), (10, (eInt .i64 ((List.length slices0 : Nat) : Int))), (11, (eInt .i64 (0 : Int)))] ?_
  refine C_cut (fun T H => ∃ size3 : Int, ∃ t9 : (List (List api_Edge)), ∃ t10 : Int, ∃ t11 : Int, Has T [(0, (eL (eL e_api_Edge) slices0)), (3, (eInt .i64 size3)), (9, (eL (eL e_api_Edge) t9)), (10, (eInt .i64 t10)), (11, (eInt .i64 t11))] ∧ Owns ⟨H0, [], []⟩ H [] ∧ slices_Concat_api_Edge_api_Edge_h4 slices0 size3 t9 t10 t11 = some r) ?_ ⟨(0 : Int), slices0, ((List.length slices0 : Nat) : Int), (0 : Int), .eq (by kernel_rfl), hO, h0⟩
  clear hO h0
  rintro T H ⟨size3, t9, t10, t11, hT, hO, h0⟩
  refine C_has hT ?_
  clear hT
  unfold slices_Concat_api_Edge_api_Edge_h4 at h0
  obtain ⟨rr0, hl0, h0⟩ := bindE h0
  refine C_loopS (by kernel_rfl) (fun (s : Int × Int) T H => Has T [(0, (eL (eL e_api_Edge) slices0)), (3, (eInt .i64 s.1)), (9, (eL (eL e_api_Edge) t9)), (10, (eInt .i64 t10)), (11, (eInt .i64 s.2))] ∧ Owns ⟨H0, [], []⟩ H []) hl0 ⟨.eq (by kernel_rfl), hO⟩ ?_
  clear hO
  rintro k0 s out1 T H ⟨hT, hO⟩ h1 ho0
  obtain ⟨size3, t11⟩ := s
  replace h1 : slices_Concat_api_Edge_api_Edge_l4 slices0 t9 t10 size3 t11 = some out1 := h1
  refine C_has (l := [(0, (eL (eL e_api_Edge) slices0)), (3, (eInt .i64 size3)), (9, (eL (eL e_api_Edge) t9)), (10, (eInt .i64 t10)), (11, (eInt .i64 t11))]) hT ?_
  clear hT
  unfold slices_Concat_api_Edge_api_Edge_l4 at h1
  refine C_sq ?_
  refine C_rg ttOk 1 ?_
  refine R_al ?_
  refine E_tn [(0, (eL (eL e_api_Edge) slices0)), (3, (eInt .i64 size3)), (9, (eL (eL e_api_Edge) t9)), (10, (eInt .i64 t10)), (11, (eInt .i64 t11)), (12, (eBool (decide (t11 < t10))))] ?_
  refine C_sq ?_
  refine C_cn (decide (t11 < t10)) (fun hc12 => ?_) (fun hc12 => ?_)
  · replace h1 := condT hc12 h1
    refine C_sk ?_
    refine E_tn [(0, (eL (eL e_api_Edge) slices0)), (3, (eInt .i64 size3)), (9, (eL (eL e_api_Edge) t9)), (10, (eInt .i64 t10)), (11, (eInt .i64 t11))] ?_
    refine C_sq ?_
    refine C_bk 1 ?_
    refine C_sq ?_
    refine C_rg ttOk 3 ?_
    obtain ⟨c13, h1⟩ := asrtE h1
    refine R_all (Ds := [0 ≤ t11 ∧ t11 < ((List.length t9 : Nat) : Int)]) (by kernel_rfl) ⟨c13, trivial⟩ ?_
    refine E_tn [(0, (eL (eL e_api_Edge) slices0)), (3, (eInt .i64 size3)), (5, (eL e_api_Edge (List.getD t9 (Int.toNat t11) default))), (9, (eL (eL e_api_Edge) t9)), (10, (eInt .i64 t10)), (11, (eInt .i64 t11))] ?_
    refine C_sq ?_
    refine C_rg ttOk 5 ?_
    refine R_al ?_
    refine E_tn [(0, (eL (eL e_api_Edge) slices0)), (3, (eInt .i64 (IntKind.i64.wrap (size3 + ((List.length (List.getD t9 (Int.toNat t11) default) : Nat) : Int))))), (9, (eL (eL e_api_Edge) t9)), (10, (eInt .i64 t10)), (11, (eInt .i64 t11))] ?_
    refine C_sq ?_
    refine C_rg ttOk 2 ?_
    refine R_al ?_
    refine E_tn [(0, (eL (eL e_api_Edge) slices0)), (3, (eInt .i64 (IntKind.i64.wrap (size3 + ((List.length (List.getD t9 (Int.toNat t11) default) : Nat) : Int))))), (9, (eL (eL e_api_Edge) t9)), (10, (eInt .i64 t10)), (11, (eInt .i64 t11)), (20, (eBool (decide ((IntKind.i64.wrap (size3 + ((List.length (List.getD t9 (Int.toNat t11) default) : Nat) : Int))) < (0 : Int)))))] ?_
    refine C_cn (decide ((IntKind.i64.wrap (size3 + ((List.length (List.getD t9 (Int.toNat t11) default) : Nat) : Int))) < (0 : Int))) (fun hc14 => ?_) (fun hc14 => ?_)
    · replace h1 := condT hc14 h1
      cases h1
    replace h1 := condF hc14 h1
    refine C_sk ?_
    refine E_hk [(0, (eL (eL e_api_Edge) slices0)), (3, (eInt .i64 (IntKind.i64.wrap (size3 + ((List.length (List.getD t9 (Int.toNat t11) default) : Nat) : Int))))), (9, (eL (eL e_api_Edge) t9)), (10, (eInt .i64 t10)), (11, (eInt .i64 t11))] ?_
    refine E_done (blockA_normal (thenA_normal (?_)))
    refine C_rg ttOk 2 ?_
    refine R_al ?_
    refine E_hk [(0, (eL (eL e_api_Edge) slices0)), (3, (eInt .i64 (IntKind.i64.wrap (size3 + ((List.length (List.getD t9 (Int.toNat t11) default) : Nat) : Int))))), (9, (eL (eL e_api_Edge) t9)), (10, (eInt .i64 t10)), (11, (eInt .i64 (IntKind.i64.wrap (t11 + (1 : Int)))))] ?_
    exact E_done (thenA_normal (⟨rfl, (IntKind.i64.wrap (size3 + ((List.length (List.getD t9 (Int.toNat t11) default) : Nat) : Int)), IntKind.i64.wrap (t11 + (1 : Int))), (Option.some.inj h1).symm, .eq (by kernel_rfl), hO⟩))
  replace h1 := condF hc12 h1
  refine C_ex 0 ?_
  refine E_hk [(0, (eL (eL e_api_Edge) slices0)), (3, (eInt .i64 size3))] ?_
  obtain rfl := Option.some.inj h1
  obtain rfl : _ = rr0 := ho0
  replace h0 : slices_Concat_api_Edge_api_Edge_j1 slices0 size3 = some r := h0
  exact E_done (thenA_exit (thenA_exit (blockA_hit (thenA_normal (⟨rfl, size3, .eq (by kernel_rfl), hO, h0⟩)))))

theorem w_edge_Add (a0 : (List api_Edge)) (b1 : (List api_Edge)) (r : ((List api_Edge) × Int)) (h0 : s_edge_Add a0 b1 = some r) : Fine Try.prog 37 [(eL e_api_Edge a0), (eL e_api_Edge b1)] (.tup [(eL e_api_Edge r.1), (eInt .i64 r.2)]) := by
  intro H0
  refine F_walk Try.func37 (by kernel_rfl) (by kernel_rfl) (by kernel_rfl) ?_
  have hO := Owns.start H0
  unfold s_edge_Add at h0
  refine C_sq ?_
  refine C_rg ttOk 2 ?_
  refine R_al ?_
  refine E_tn [(0, (eL e_api_Edge a0)), (1, (eL e_api_Edge b1))] ?_
  refine C_sq ?_
  refine C_sq ?_
  refine C_rg ttOk 8 ?_
  refine R_pu 1 ?_
  obtain ⟨x1, hx2, h0⟩ := bindE h0
  refine R_cO 25 [(eL e_api_Edge a0)] (eBool x1) (w_edge_May a0 _ hx2) hO ?_
  intro H hO
  refine R_pu 5 ?_
  obtain ⟨x4, hx5, h0⟩ := bindE h0
  refine R_callO [(9, false)] 25 [(eL e_api_Edge b1)] (eBool x4) (!(!x1)) (by kernel_rfl) (by kernel_rfl) (by kernel_rfl) (fun hb6 => (w_edge_May b1 _ (gcallE hx5 hb6))) hO ?_
  intro H hO
  refine R_al ?_
  refine E_tn [(0, (eL e_api_Edge a0)), (1, (eL e_api_Edge b1)), (13, (eBool ((!x1) || (!x4))))] ?_
  refine C_cn ((!x1) || (!x4)) (fun hc7 => ?_) (fun hc7 => ?_)
  · replace h0 := condT hc7 h0
    refine C_sq ?_
    refine C_rg ttOk 2 ?_
    refine R_al ?_
    refine E_tn [(4, (.sl true 0 (fun _ => .bad))), (5, (eInt .i64 (2 : Int)))] ?_
    refine C_rt ?_
    refine E_has (l := [(4, (eL e_api_Edge ([]))), (5, (eInt .i64 (2 : Int)))]) ⟨[(4, (.sl true 0 (fun _ => .bad))), (5, (eInt .i64 (2 : Int)))], by kernel_rfl, rfl, ⟨subNilL, SubV.refl _, trivial⟩⟩ ?_
    obtain rfl := Option.some.inj h0
    exact E_done (thenA_ret (Q_ret (x := (.tup [(eL e_api_Edge ([])), (eInt .i64 (2 : Int))])) (by kernel_rfl) (SubV.refl _) ⟨rfl, hO.out⟩))
  replace h0 := condF hc7 h0
  refine C_sk ?_
  refine E_tn [(0, (eL e_api_Edge a0)), (1, (eL e_api_Edge b1))] ?_
  refine C_sq ?_
  refine C_rg ttOk 9 ?_
  refine R_pu 2 ?_
  refine R_bsl (xs := [(eL e_api_Edge a0), (eL e_api_Edge b1)]) (k := 1) (by kernel_rfl) (by kernel_rfl) ?_
  obtain ⟨x8, hx9, h0⟩ := bindE h0
  refine R_cO 79 [(frozenOf [(eL e_api_Edge a0), (eL e_api_Edge b1)])] (eL e_api_Edge x8) (Fine.sub (w_slices_Concat_api_Edge_api_Edge ([a0, b1]) _ hx9) ⟨subLit (l := [a0, b1]), trivial⟩) hO ?_
  intro H hO
  obtain ⟨x11, hx12, h0⟩ := bindE h0
  refine R_cO 23 [(eL e_api_Edge x8)] (.tup [(eL e_api_Edge x11.1), (eInt .i64 x11.2)]) (w_edge_Norm x8 _ hx12) hO ?_
  intro H hO
  refine R_al ?_
  refine E_tn [(4, (eL e_api_Edge x11.1)), (5, (eInt .i64 x11.2))] ?_
  refine C_rt ?_
  refine E_hk [(4, (eL e_api_Edge x11.1)), (5, (eInt .i64 x11.2))] ?_
  obtain rfl := Option.some.inj h0
  exact E_done (Q_ret (x := (.tup [(eL e_api_Edge x11.1), (eInt .i64 x11.2)])) (by kernel_rfl) (SubV.refl _) ⟨rfl, hO.out⟩)

theorem w_law10_live  (r : Bool) (h0 : s_law10_live  = some r) : Fine Try.prog 22 [] (eBool r) := by
  intro H0
  refine F_walk Try.func22 (by kernel_rfl) (by kernel_rfl) (by kernel_rfl) ?_
  have hO := Owns.start H0
  unfold s_law10_live at h0
  refine C_sq ?_
  refine C_rg ttOk 1 ?_
  refine R_al ?_
  refine E_tn [] ?_
  refine C_sq ?_
  refine C_rg ttOk 3 ?_
  refine R_pu 1 ?_
  refine R_bsl (xs := [(e_api_Value (api_Value.mk (1 : Int) (1 : Int) ByteArray.empty))]) (k := 3) (by kernel_rfl) (by kernel_rfl) ?_
  refine R_al ?_
  refine E_has (l := [(1, (eL e_api_Value ([api_Value.mk (1 : Int) (1 : Int) ByteArray.empty])))]) ⟨[(1, (frozenOf [(e_api_Value (api_Value.mk (1 : Int) (1 : Int) ByteArray.empty))]))], by kernel_rfl, rfl, ⟨subLit (l := [api_Value.mk (1 : Int) (1 : Int) ByteArray.empty]), trivial⟩⟩ ?_
  refine E_done (thenA_normal (?_))
  refine C_sq ?_
  refine C_rg ttOk 8 ?_
  refine R_pu 2 ?_
  obtain ⟨x1, hx2, h0⟩ := bindE h0
  refine R_cO 39 [(eL e_api_Value ([api_Value.mk (1 : Int) (1 : Int) ByteArray.empty])), (e_api_Span (api_Span.mk (2 : Int) (5 : Int)))] (.tup [(eL e_api_Edge x1.1), (eInt .i64 x1.2)]) (w_edge_Of ([api_Value.mk (1 : Int) (1 : Int) ByteArray.empty]) (api_Span.mk (2 : Int) (5 : Int)) _ hx2) hO ?_
  intro H hO
  refine R_al ?_
  refine E_tn [(1, (eL e_api_Value ([api_Value.mk (1 : Int) (1 : Int) ByteArray.empty]))), (2, (eL e_api_Edge x1.1)), (3, (eInt .i64 x1.2))] ?_
  refine C_sq ?_
  refine C_rg ttOk 8 ?_
  refine R_pu 2 ?_
  obtain ⟨x4, hx5, h0⟩ := bindE h0
  refine R_cO 39 [(eL e_api_Value ([api_Value.mk (1 : Int) (1 : Int) ByteArray.empty])), (e_api_Span (api_Span.mk (5 : Int) (9 : Int)))] (.tup [(eL e_api_Edge x4.1), (eInt .i64 x4.2)]) (w_edge_Of ([api_Value.mk (1 : Int) (1 : Int) ByteArray.empty]) (api_Span.mk (5 : Int) (9 : Int)) _ hx5) hO ?_
  intro H hO
  refine R_al ?_
  refine E_tn [(2, (eL e_api_Edge x1.1)), (3, (eInt .i64 x1.2)), (4, (eL e_api_Edge x4.1)), (5, (eInt .i64 x4.2))] ?_
  refine C_sq ?_
  refine C_rg ttOk 8 ?_
  refine R_pu 2 ?_
  obtain ⟨x7, hx8, h0⟩ := bindE h0
  refine R_cO 37 [(eL e_api_Edge x1.1), (eL e_api_Edge x4.1)] (.tup [(eL e_api_Edge x7.1), (eInt .i64 x7.2)]) (w_edge_Add x1.1 x4.1 _ hx8) hO ?_
  intro H hO
  refine R_al ?_
  refine E_tn [(2, (eL e_api_Edge x1.1)), (3, (eInt .i64 x1.2)), (5, (eInt .i64 x4.2)), (6, (eL e_api_Edge x7.1)), (7, (eInt .i64 x7.2))] ?_
  refine C_sq ?_
  refine C_rg ttOk 56 ?_
  obtain ⟨c10, h0⟩ := asrtE h0
  obtain ⟨c11, h0⟩ := asrtE h0
  obtain ⟨c12, h0⟩ := asrtE h0
  obtain ⟨c13, h0⟩ := asrtE h0
  refine R_pure 50 (by kernel_rfl) (Ds := [(((((((decide (x1.2 = (0 : Int))) && (decide (x4.2 = (0 : Int)))) && (decide (x7.2 = (0 : Int)))) && (decide (((List.length x1.1 : Nat) : Int) = (2 : Int)))) && (decide (((List.length x7.1 : Nat) : Int) = (2 : Int))))) = true → 0 ≤ (0 : Int) ∧ (0 : Int) < ((List.length x7.1 : Nat) : Int)), ((((((((decide (x1.2 = (0 : Int))) && (decide (x4.2 = (0 : Int)))) && (decide (x7.2 = (0 : Int)))) && (decide (((List.length x1.1 : Nat) : Int) = (2 : Int)))) && (decide (((List.length x7.1 : Nat) : Int) = (2 : Int)))) && (decide (((List.getD x7.1 (Int.toNat (0 : Int)) default).At) = (2 : Int))))) = true → 0 ≤ (0 : Int) ∧ (0 : Int) < ((List.length x7.1 : Nat) : Int)), (((((((((decide (x1.2 = (0 : Int))) && (decide (x4.2 = (0 : Int)))) && (decide (x7.2 = (0 : Int)))) && (decide (((List.length x1.1 : Nat) : Int) = (2 : Int)))) && (decide (((List.length x7.1 : Nat) : Int) = (2 : Int)))) && (decide (((List.getD x7.1 (Int.toNat (0 : Int)) default).At) = (2 : Int)))) && (decide (((List.getD x7.1 (Int.toNat (0 : Int)) default).Net) = (1 : Int))))) = true → 0 ≤ (1 : Int) ∧ (1 : Int) < ((List.length x7.1 : Nat) : Int)), ((((((((((decide (x1.2 = (0 : Int))) && (decide (x4.2 = (0 : Int)))) && (decide (x7.2 = (0 : Int)))) && (decide (((List.length x1.1 : Nat) : Int) = (2 : Int)))) && (decide (((List.length x7.1 : Nat) : Int) = (2 : Int)))) && (decide (((List.getD x7.1 (Int.toNat (0 : Int)) default).At) = (2 : Int)))) && (decide (((List.getD x7.1 (Int.toNat (0 : Int)) default).Net) = (1 : Int)))) && (decide (((List.getD x7.1 (Int.toNat (1 : Int)) default).At) = (9 : Int))))) = true → 0 ≤ (1 : Int) ∧ (1 : Int) < ((List.length x7.1 : Nat) : Int))]) (by kernel_rfl) ⟨c10, c11, c12, c13, trivial⟩ ?_
  obtain ⟨x14, hx15, h0⟩ := bindE h0
  refine R_callO [(76, true)] 17 [(eL e_api_Edge x7.1)] (eBool x14) (((((((((decide (x1.2 = (0 : Int))) && (decide (x4.2 = (0 : Int)))) && (decide (x7.2 = (0 : Int)))) && (decide (((List.length x1.1 : Nat) : Int) = (2 : Int)))) && (decide (((List.length x7.1 : Nat) : Int) = (2 : Int)))) && (decide (((List.getD x7.1 (Int.toNat (0 : Int)) default).At) = (2 : Int)))) && (decide (((List.getD x7.1 (Int.toNat (0 : Int)) default).Net) = (1 : Int)))) && (decide (((List.getD x7.1 (Int.toNat (1 : Int)) default).At) = (9 : Int)))) && (decide (((List.getD x7.1 (Int.toNat (1 : Int)) default).Net) = (-1 : Int)))) (by kernel_rfl) (by kernel_rfl) (by kernel_rfl) (fun hb16 => (w_edge_Table x7.1 _ (gcallE hx15 hb16))) hO ?_
  intro H hO
  refine R_pu 53 ?_
  obtain ⟨x17, hx18, h0⟩ := bindE h0
  refine R_callO [(80, true)] 25 [(.sl true 0 (fun _ => .bad))] (eBool x17) ((((((((((decide (x1.2 = (0 : Int))) && (decide (x4.2 = (0 : Int)))) && (decide (x7.2 = (0 : Int)))) && (decide (((List.length x1.1 : Nat) : Int) = (2 : Int)))) && (decide (((List.length x7.1 : Nat) : Int) = (2 : Int)))) && (decide (((List.getD x7.1 (Int.toNat (0 : Int)) default).At) = (2 : Int)))) && (decide (((List.getD x7.1 (Int.toNat (0 : Int)) default).Net) = (1 : Int)))) && (decide (((List.getD x7.1 (Int.toNat (1 : Int)) default).At) = (9 : Int)))) && (decide (((List.getD x7.1 (Int.toNat (1 : Int)) default).Net) = (-1 : Int)))) && x14) (by kernel_rfl) (by kernel_rfl) (by kernel_rfl) (fun hb19 => (Fine.sub (w_edge_May ([]) _ (gcallE hx18 hb19)) ⟨subNilL, trivial⟩)) hO ?_
  intro H hO
  refine R_al ?_
  refine E_tn [(0, (eBool (((((((((((decide (x1.2 = (0 : Int))) && (decide (x4.2 = (0 : Int)))) && (decide (x7.2 = (0 : Int)))) && (decide (((List.length x1.1 : Nat) : Int) = (2 : Int)))) && (decide (((List.length x7.1 : Nat) : Int) = (2 : Int)))) && (decide (((List.getD x7.1 (Int.toNat (0 : Int)) default).At) = (2 : Int)))) && (decide (((List.getD x7.1 (Int.toNat (0 : Int)) default).Net) = (1 : Int)))) && (decide (((List.getD x7.1 (Int.toNat (1 : Int)) default).At) = (9 : Int)))) && (decide (((List.getD x7.1 (Int.toNat (1 : Int)) default).Net) = (-1 : Int)))) && x14) && x17)))] ?_
  refine C_rt ?_
  refine E_hk [(0, (eBool (((((((((((decide (x1.2 = (0 : Int))) && (decide (x4.2 = (0 : Int)))) && (decide (x7.2 = (0 : Int)))) && (decide (((List.length x1.1 : Nat) : Int) = (2 : Int)))) && (decide (((List.length x7.1 : Nat) : Int) = (2 : Int)))) && (decide (((List.getD x7.1 (Int.toNat (0 : Int)) default).At) = (2 : Int)))) && (decide (((List.getD x7.1 (Int.toNat (0 : Int)) default).Net) = (1 : Int)))) && (decide (((List.getD x7.1 (Int.toNat (1 : Int)) default).At) = (9 : Int)))) && (decide (((List.getD x7.1 (Int.toNat (1 : Int)) default).Net) = (-1 : Int)))) && x14) && x17)))] ?_
  obtain rfl := Option.some.inj h0
  exact E_done (Q_ret (x := (eBool (((((((((((decide (x1.2 = (0 : Int))) && (decide (x4.2 = (0 : Int)))) && (decide (x7.2 = (0 : Int)))) && (decide (((List.length x1.1 : Nat) : Int) = (2 : Int)))) && (decide (((List.length x7.1 : Nat) : Int) = (2 : Int)))) && (decide (((List.getD x7.1 (Int.toNat (0 : Int)) default).At) = (2 : Int)))) && (decide (((List.getD x7.1 (Int.toNat (0 : Int)) default).Net) = (1 : Int)))) && (decide (((List.getD x7.1 (Int.toNat (1 : Int)) default).At) = (9 : Int)))) && (decide (((List.getD x7.1 (Int.toNat (1 : Int)) default).Net) = (-1 : Int)))) && x14) && x17))) (by kernel_rfl) (SubV.refl _) ⟨rfl, hO.out⟩)

theorem w_edge_all (l0 : (List api_Edge)) (by1_f : Nat) (by1_a by1_c : List V) (by1 : (List api_Jump) → Option ((List api_Jump) × Int)) (by1_h : ∀ a0 r, by1 a0 = some r → Fine Try.prog by1_f (by1_a ++ [(eL e_api_Jump a0)] ++ by1_c) (.tup [(eL e_api_Jump r.1), (eInt .i64 r.2)])) (r : ((List api_Edge) × Int)) (h0 : s_edge_all l0 by1 = some r) : Fine Try.prog 71 [(eL e_api_Edge l0), (.fn (.func by1_f) by1_a by1_c)] (.tup [(eL e_api_Edge r.1), (eInt .i64 r.2)]) := by
  intro H0
  refine F_walk Try.func71 (by kernel_rfl) (by kernel_rfl) (by kernel_rfl) ?_
  have hO := Owns.start H0
  unfold s_edge_all at h0
  refine C_sq ?_
  refine C_rg ttOk 2 ?_
  refine R_al ?_
  refine E_tn [(0, (eL e_api_Edge l0)), (1, (.fn (.func by1_f) by1_a by1_c))] ?_
  refine C_sq ?_
  refine C_sq ?_
  refine C_rg ttOk 3 ?_
  refine R_pu 1 ?_
  obtain ⟨x1, hx2, h0⟩ := bindE h0
  refine R_cO 25 [(eL e_api_Edge l0)] (eBool x1) (w_edge_May l0 _ hx2) hO ?_
  intro H hO
  refine R_al ?_
  refine E_tn [(0, (eL e_api_Edge l0)), (1, (.fn (.func by1_f) by1_a by1_c)), (8, (eBool (!x1)))] ?_
  refine C_cn (!x1) (fun hc4 => ?_) (fun hc4 => ?_)
  · replace h0 := condT hc4 h0
    refine C_sq ?_
    refine C_rg ttOk 2 ?_
    refine R_al ?_
    refine E_tn [(4, (.sl true 0 (fun _ => .bad))), (5, (eInt .i64 (2 : Int)))] ?_
    refine C_rt ?_
    refine E_has (l := [(4, (eL e_api_Edge ([]))), (5, (eInt .i64 (2 : Int)))]) ⟨[(4, (.sl true 0 (fun _ => .bad))), (5, (eInt .i64 (2 : Int)))], by kernel_rfl, rfl, ⟨subNilL, SubV.refl _, trivial⟩⟩ ?_
    obtain rfl := Option.some.inj h0
    exact E_done (thenA_ret (Q_ret (x := (.tup [(eL e_api_Edge ([])), (eInt .i64 (2 : Int))])) (by kernel_rfl) (SubV.refl _) ⟨rfl, hO.out⟩))
  replace h0 := condF hc4 h0
  refine C_sk ?_
  refine E_tn [(0, (eL e_api_Edge l0)), (1, (.fn (.func by1_f) by1_a by1_c))] ?_
  refine C_sq ?_
  refine C_rg ttOk 7 ?_
  refine R_pu 2 ?_
  obtain ⟨x5, hx6, h0⟩ := bindE h0
  refine R_cO 63 [(eL e_api_Edge l0), (.fn (.func by1_f) by1_a by1_c)] (.tup [(eL e_api_Edge x5.1), (eInt .i64 x5.2)]) (w_edge_mapped l0 by1_f by1_a by1_c by1 by1_h _ hx6) hO ?_
  intro H hO
  refine R_al ?_
  refine E_tn [(4, (eL e_api_Edge x5.1)), (5, (eInt .i64 x5.2))] ?_
  refine C_rt ?_
  refine E_hk [(4, (eL e_api_Edge x5.1)), (5, (eInt .i64 x5.2))] ?_
  obtain rfl := Option.some.inj h0
  exact E_done (Q_ret (x := (.tup [(eL e_api_Edge x5.1), (eInt .i64 x5.2)])) (by kernel_rfl) (SubV.refl _) ⟨rfl, hO.out⟩)

end Go.Abs
namespace Go.Abs
open Go Go.RowKit Go.Proofs
theorem w_step_both (f0 : (List api_Jump)) (g1 : (List api_Jump)) (by2_f : Nat) (by2_a by2_c : List V) (by2 : Int → Int → Option Int) (by2_h : ∀ a0 a1 r, by2 a0 a1 = some r → Fine Try.prog by2_f (by2_a ++ [(eInt .i64 a0), (eInt .i64 a1)] ++ by2_c) (eInt .i64 r)) (r : ((List api_Jump) × Int)) (h0 : s_step_both f0 g1 by2 = some r) : Fine Try.prog 108 [(eL e_api_Jump f0), (eL e_api_Jump g1), (.fn (.func by2_f) by2_a by2_c)] (.tup [(eL e_api_Jump r.1), (eInt .i64 r.2)]) := by
  intro H0
  refine F_walk Try.func108 (by kernel_rfl) (by kernel_rfl) (by kernel_rfl) ?_
  have hO := Owns.start H0
  unfold s_step_both at h0
  refine C_sq ?_
  refine C_rg ttOk 2 ?_
  refine R_al ?_
  refine E_tn [(0, (eL e_api_Jump f0)), (1, (eL e_api_Jump g1)), (2, (.fn (.func by2_f) by2_a by2_c))] ?_
  refine C_sq ?_
  refine C_sq ?_
  refine C_rg ttOk 8 ?_
  refine R_pu 1 ?_
  obtain ⟨x1, hx2, h0⟩ := bindE h0
  refine R_cO 51 [(eL e_api_Jump f0)] (eBool x1) (w_step_May f0 _ hx2) hO ?_
  intro H hO
  refine R_pu 5 ?_
  obtain ⟨x4, hx5, h0⟩ := bindE h0
  refine R_callO [(17, false)] 51 [(eL e_api_Jump g1)] (eBool x4) (!(!x1)) (by kernel_rfl) (by kernel_rfl) (by kernel_rfl) (fun hb6 => (w_step_May g1 _ (gcallE hx5 hb6))) hO ?_
  intro H hO
  refine R_al ?_
  refine E_tn [(0, (eL e_api_Jump f0)), (1, (eL e_api_Jump g1)), (2, (.fn (.func by2_f) by2_a by2_c)), (21, (eBool ((!x1) || (!x4))))] ?_
  refine C_cn ((!x1) || (!x4)) (fun hc7 => ?_) (fun hc7 => ?_)
  · replace h0 := condT hc7 h0
    refine C_sq ?_
    refine C_rg ttOk 2 ?_
    refine R_al ?_
    refine E_tn [(6, (.sl true 0 (fun _ => .bad))), (7, (eInt .i64 (2 : Int)))] ?_
    refine C_rt ?_
    refine E_has (l := [(6, (eL e_api_Jump ([]))), (7, (eInt .i64 (2 : Int)))]) ⟨[(6, (.sl true 0 (fun _ => .bad))), (7, (eInt .i64 (2 : Int)))], by kernel_rfl, rfl, ⟨subNilL, SubV.refl _, trivial⟩⟩ ?_
    obtain rfl := Option.some.inj h0
    exact E_done (thenA_ret (Q_ret (x := (.tup [(eL e_api_Jump ([])), (eInt .i64 (2 : Int))])) (by kernel_rfl) (SubV.refl _) ⟨rfl, hO.out⟩))
  replace h0 := condF hc7 h0
  refine C_sk ?_
  refine E_tn [(0, (eL e_api_Jump f0)), (1, (eL e_api_Jump g1)), (2, (.fn (.func by2_f) by2_a by2_c))] ?_
  refine C_sq ?_
  refine C_rg ttOk 2 ?_
  refine R_bsl (xs := []) (k := 2) (by kernel_rfl) (by kernel_rfl) ?_
  refine R_al ?_
  refine E_tn [(0, (eL e_api_Jump f0)), (1, (eL e_api_Jump g1)), (2, (.fn (.func by2_f) by2_a by2_c)), (8, (.sl true 0 (fun _ => .bad)))] ?_
  refine C_sq ?_
  refine C_rg ttOk 3 ?_
  refine R_al ?_
  refine E_tn [(0, (eL e_api_Jump f0)), (1, (eL e_api_Jump g1)), (2, (.fn (.func by2_f) by2_a by2_c)), (8, (.sl true 0 (fun _ => .bad))), (9, (eInt .i64 (0 : Int))), (10, (eInt .i64 (0 : Int))), (11, (eInt .i64 (0 : Int)))] ?_
  refine C_seqJ (by kernel_rfl) (fun T H => ∃ out8 : List api_Jump, ∃ lo8 : Nat, Has T [(8, (.msl 2 lo8 0 (List.length out8)))] ∧ Owns ⟨H0, [], []⟩ H [(lo8, 2, List.map e_api_Jump out8)] ∧ step_both_j1 by2 out8 = some r) ?_ ?_
  · clear hO h0
    rintro T H ⟨out8, lo8, hT, hO, h0⟩
    refine C_has hT ?_
    clear hT
    unfold step_both_j1 at h0
    refine C_sq ?_
    refine C_rg ttOk 6 ?_
    refine R_freezeO (e := e_api_Jump) out8 0 8 2 lo8 (List.length out8) [] (by kernel_rfl) hO (by kernel_rfl) (by kernel_rfl) (by kernel_rfl) (by kernel_rfl) ?_
    intro H hO
    refine R_pu 1 ?_
    obtain ⟨x9, hx10, h0⟩ := bindE h0
    refine R_cO 102 [(eL e_api_Jump out8)] (.tup [(eL e_api_Jump x9.1), (eInt .i64 x9.2)]) (w_step_told out8 _ hx10) hO ?_
    intro H hO
    refine R_al ?_
    refine E_tn [(6, (eL e_api_Jump x9.1)), (7, (eInt .i64 x9.2))] ?_
    refine C_rt ?_
    refine E_hk [(6, (eL e_api_Jump x9.1)), (7, (eInt .i64 x9.2))] ?_
    obtain rfl := Option.some.inj h0
    exact E_done (Q_ret (x := (.tup [(eL e_api_Jump x9.1), (eInt .i64 x9.2)])) (by kernel_rfl) (SubV.refl _) ⟨rfl, hO.out⟩)
  refine C_bk 0 ?_
  refine C_hk [(0, (eL e_api_Jump f0)), (1, (eL e_api_Jump g1)), (2, (.fn (.func by2_f) by2_a by2_c)), (8, (.sl true 0 (fun _ => .bad))), (9, (eInt .i64 (0 : Int))), (10, (eInt .i64 (0 : Int))), (11, (eInt .i64 (0 : Int)))] ?_
  refine C_ownO (el := (fun _ => .bad)) 3 8 2 hO (by kernel_rfl) ?_
  intro lo37 H38 hO
  refine C_cut (fun T H => ∃ f0 : (List api_Jump), ∃ g1 : (List api_Jump), ∃ out8 : List api_Jump, ∃ a9 : Int, ∃ b10 : Int, ∃ was11 : Int, ∃ lo13 : Nat, Has T [(0, (eL e_api_Jump f0)), (1, (eL e_api_Jump g1)), (2, (.fn (.func by2_f) by2_a by2_c)), (8, (.msl 2 lo13 0 (List.length out8))), (9, (eInt .i64 a9)), (10, (eInt .i64 b10)), (11, (eInt .i64 was11))] ∧ Owns ⟨H0, [], []⟩ H [(lo13, 2, List.map e_api_Jump out8)] ∧ step_both_h2 by2 f0 g1 out8 a9 b10 was11 = some r) ?_ ⟨f0, g1, ([] : List api_Jump), (0 : Int), (0 : Int), (0 : Int), lo37, .eq (by kernel_rfl), hO, h0⟩
  clear hO h0
  rintro T H ⟨f0, g1, out8, a9, b10, was11, lo13, hT, hO, h0⟩
  refine C_has hT ?_
  clear hT
  unfold step_both_h2 at h0
  obtain ⟨rr0, hl0, h0⟩ := bindE h0
  refine C_loopS (by kernel_rfl) (fun (s : (List api_Jump) × (List api_Jump) × List api_Jump × Int × Int × Int) T H => ∃ lo13 : Nat, Has T [(0, (eL e_api_Jump s.1)), (1, (eL e_api_Jump s.2.1)), (2, (.fn (.func by2_f) by2_a by2_c)), (8, (.msl 2 lo13 0 (List.length s.2.2.1))), (9, (eInt .i64 s.2.2.2.1)), (10, (eInt .i64 s.2.2.2.2.1)), (11, (eInt .i64 s.2.2.2.2.2))] ∧ Owns ⟨H0, [], []⟩ H [(lo13, 2, List.map e_api_Jump s.2.2.1)]) hl0 ⟨lo13, .eq (by kernel_rfl), hO⟩ ?_
  clear hO
  rintro k0 s out1 T H ⟨lo13, hT, hO⟩ h1 ho0
  obtain ⟨f0, g1, out8, a9, b10, was11⟩ := s
  replace h1 : step_both_l2 by2 f0 g1 out8 a9 b10 was11 = some out1 := h1
  refine C_has (l := [(0, (eL e_api_Jump f0)), (1, (eL e_api_Jump g1)), (2, (.fn (.func by2_f) by2_a by2_c)), (8, (.msl 2 lo13 0 (List.length out8))), (9, (eInt .i64 a9)), (10, (eInt .i64 b10)), (11, (eInt .i64 was11))]) hT ?_
  clear hT
  unfold step_both_l2 at h1
  refine C_sq ?_
  refine C_sq ?_
  refine C_rg ttOk 8 ?_
  refine R_al ?_
  refine E_tn [(0, (eL e_api_Jump f0)), (1, (eL e_api_Jump g1)), (2, (.fn (.func by2_f) by2_a by2_c)), (8, (.msl 2 lo13 0 (List.length out8))), (9, (eInt .i64 a9)), (10, (eInt .i64 b10)), (11, (eInt .i64 was11)), (30, (eBool ((decide ((0 : Int) < ((List.length f0 : Nat) : Int))) || (decide ((0 : Int) < ((List.length g1 : Nat) : Int))))))] ?_
  refine C_cn ((decide ((0 : Int) < ((List.length f0 : Nat) : Int))) || (decide ((0 : Int) < ((List.length g1 : Nat) : Int)))) (fun hc14 => ?_) (fun hc14 => ?_)
  · replace h1 := condT hc14 h1
    refine C_sk ?_
    refine E_tn [(0, (eL e_api_Jump f0)), (1, (eL e_api_Jump g1)), (2, (.fn (.func by2_f) by2_a by2_c)), (8, (.msl 2 lo13 0 (List.length out8))), (9, (eInt .i64 a9)), (10, (eInt .i64 b10)), (11, (eInt .i64 was11))] ?_
    refine C_bk 1 ?_
    refine C_sq ?_
    refine C_rg ttOk 1 ?_
    refine R_al ?_
    refine E_tn [(0, (eL e_api_Jump f0)), (1, (eL e_api_Jump g1)), (2, (.fn (.func by2_f) by2_a by2_c)), (8, (.msl 2 lo13 0 (List.length out8))), (9, (eInt .i64 a9)), (10, (eInt .i64 b10)), (11, (eInt .i64 was11)), (12, (eInt .i64 (1125899906842624 : Int)))] ?_
    refine C_seqJ (by kernel_rfl) (fun T H => ∃ out8 : List api_Jump, ∃ at12 : Int, ∃ lo15 : Nat, Has T [(0, (eL e_api_Jump f0)), (1, (eL e_api_Jump g1)), (2, (.fn (.func by2_f) by2_a by2_c)), (8, (.msl 2 lo15 0 (List.length out8))), (9, (eInt .i64 a9)), (10, (eInt .i64 b10)), (11, (eInt .i64 was11)), (12, (eInt .i64 at12))] ∧ Owns ⟨H0, [], []⟩ H [(lo15, 2, List.map e_api_Jump out8)] ∧ step_both_j3 by2 f0 g1 out8 a9 b10 was11 at12 = some out1) ?_ ?_
    · clear hO h1
      rintro T H ⟨out8, at12, lo15, hT, hO, h1⟩
      refine C_has hT ?_
      clear hT
      unfold step_both_j3 at h1
      refine C_seqJ (by kernel_rfl) (fun T H => ∃ out8 : List api_Jump, ∃ at12 : Int, ∃ lo16 : Nat, Has T [(0, (eL e_api_Jump f0)), (1, (eL e_api_Jump g1)), (2, (.fn (.func by2_f) by2_a by2_c)), (8, (.msl 2 lo16 0 (List.length out8))), (9, (eInt .i64 a9)), (10, (eInt .i64 b10)), (11, (eInt .i64 was11)), (12, (eInt .i64 at12))] ∧ Owns ⟨H0, [], []⟩ H [(lo16, 2, List.map e_api_Jump out8)] ∧ step_both_j4 by2 f0 g1 out8 a9 b10 was11 at12 = some out1) ?_ ?_
      · clear hO h1
        rintro T H ⟨out8, at12, lo16, hT, hO, h1⟩
        refine C_has hT ?_
        clear hT
        unfold step_both_j4 at h1
        refine C_seqJ (by kernel_rfl) (fun T H => ∃ f0 : (List api_Jump), ∃ out8 : List api_Jump, ∃ a9 : Int, ∃ lo17 : Nat, Has T [(0, (eL e_api_Jump f0)), (1, (eL e_api_Jump g1)), (2, (.fn (.func by2_f) by2_a by2_c)), (8, (.msl 2 lo17 0 (List.length out8))), (9, (eInt .i64 a9)), (10, (eInt .i64 b10)), (11, (eInt .i64 was11)), (12, (eInt .i64 at12))] ∧ Owns ⟨H0, [], []⟩ H [(lo17, 2, List.map e_api_Jump out8)] ∧ step_both_j5 by2 f0 g1 out8 a9 b10 was11 at12 = some out1) ?_ ?_
        · clear hO h1
          rintro T H ⟨f0, out8, a9, lo17, hT, hO, h1⟩
          refine C_has hT ?_
          clear hT
          unfold step_both_j5 at h1
          refine C_seqJ (by kernel_rfl) (fun T H => ∃ g1 : (List api_Jump), ∃ out8 : List api_Jump, ∃ b10 : Int, ∃ lo18 : Nat, Has T [(0, (eL e_api_Jump f0)), (1, (eL e_api_Jump g1)), (2, (.fn (.func by2_f) by2_a by2_c)), (8, (.msl 2 lo18 0 (List.length out8))), (9, (eInt .i64 a9)), (10, (eInt .i64 b10)), (11, (eInt .i64 was11)), (12, (eInt .i64 at12))] ∧ Owns ⟨H0, [], []⟩ H [(lo18, 2, List.map e_api_Jump out8)] ∧ step_both_j6 by2 f0 g1 out8 a9 b10 was11 at12 = some out1) ?_ ?_
          · clear hO h1
            rintro T H ⟨g1, out8, b10, lo18, hT, hO, h1⟩
            refine C_has hT ?_
            clear hT
            unfold step_both_j6 at h1
            refine C_sq ?_
            refine C_rg ttOk 5 ?_
            refine R_pu 3 ?_
            obtain ⟨x19, hx20, h1⟩ := bindE h1
            refine R_cO by2_f (by2_a ++ [(eInt .i64 a9), (eInt .i64 b10)] ++ by2_c) (eInt .i64 x19) (by2_h a9 b10 _ hx20) hO ?_
            intro H hO
            refine R_al ?_
            refine E_tn [(0, (eL e_api_Jump f0)), (1, (eL e_api_Jump g1)), (2, (.fn (.func by2_f) by2_a by2_c)), (8, (.msl 2 lo18 0 (List.length out8))), (9, (eInt .i64 a9)), (10, (eInt .i64 b10)), (11, (eInt .i64 was11)), (12, (eInt .i64 at12)), (13, (eInt .i64 x19))] ?_
            refine C_sq ?_
            refine C_rg ttOk 3 ?_
            refine R_al ?_
            refine E_tn [(0, (eL e_api_Jump f0)), (1, (eL e_api_Jump g1)), (2, (.fn (.func by2_f) by2_a by2_c)), (8, (.msl 2 lo18 0 (List.length out8))), (9, (eInt .i64 a9)), (10, (eInt .i64 b10)), (11, (eInt .i64 was11)), (12, (eInt .i64 at12)), (13, (eInt .i64 x19)), (91, (eBool (!decide (x19 = was11))))] ?_
            refine C_cn (!decide (x19 = was11)) (fun hc22 => ?_) (fun hc22 => ?_)
            · replace h1 := condT hc22 h1
              refine C_sq ?_
              refine C_rg ttOk 9 ?_
              refine R_pu 6 ?_
              refine R_bsl (xs := [(e_api_Jump (api_Jump.mk at12 (IntKind.i64.wrap (x19 - was11))))]) (k := 2) (by kernel_rfl) (by kernel_rfl) ?_
              obtain ⟨c24, h1⟩ := asrtE h1
              refine R_appOL (e := e_api_Jump) out8 ([api_Jump.mk at12 (IntKind.i64.wrap (x19 - was11))]) 0 lo18 2 16 (frozenOf [(e_api_Jump (api_Jump.mk at12 (IntKind.i64.wrap (x19 - was11))))]) (fun lo23 => [(lo23, 2, List.map e_api_Jump (out8 ++ ([api_Jump.mk at12 (IntKind.i64.wrap (x19 - was11))])))]) (by kernel_rfl) (by kernel_rfl) hO (by kernel_rfl) (by kernel_rfl) c24 (fun _ => by kernel_rfl) ?_
              intro lo23 H hO
              refine R_al ?_
              refine E_tn [(0, (eL e_api_Jump f0)), (1, (eL e_api_Jump g1)), (2, (.fn (.func by2_f) by2_a by2_c)), (8, (.msl 2 lo23 0 (List.length (out8 ++ ([api_Jump.mk at12 (IntKind.i64.wrap (x19 - was11))]))))), (9, (eInt .i64 a9)), (10, (eInt .i64 b10)), (13, (eInt .i64 x19))] ?_
              refine C_rg ttOk 2 ?_
              refine R_al ?_
              refine E_hk [(0, (eL e_api_Jump f0)), (1, (eL e_api_Jump g1)), (2, (.fn (.func by2_f) by2_a by2_c)), (8, (.msl 2 lo23 0 (List.length (out8 ++ ([api_Jump.mk at12 (IntKind.i64.wrap (x19 - was11))]))))), (9, (eInt .i64 a9)), (10, (eInt .i64 b10)), (11, (eInt .i64 x19))] ?_
              exact E_done (blockA_normal (thenA_normal (⟨rfl, (f0, g1, out8 ++ ([api_Jump.mk at12 (IntKind.i64.wrap (x19 - was11))]), a9, b10, x19), (Option.some.inj h1).symm, lo23, .eq (by kernel_rfl), hO⟩)))
            replace h1 := condF hc22 h1
            refine C_sk ?_
            refine E_hk [(0, (eL e_api_Jump f0)), (1, (eL e_api_Jump g1)), (2, (.fn (.func by2_f) by2_a by2_c)), (8, (.msl 2 lo18 0 (List.length out8))), (9, (eInt .i64 a9)), (10, (eInt .i64 b10)), (11, (eInt .i64 was11))] ?_
            exact E_done (blockA_normal (thenA_normal (⟨rfl, (f0, g1, out8, a9, b10, was11), (Option.some.inj h1).symm, lo18, .eq (by kernel_rfl), hO⟩)))
          refine C_sq ?_
          refine C_rg ttOk 11 ?_
          obtain ⟨c25, h1⟩ := asrtE h1
          refine R_all (Ds := [(((decide ((0 : Int) < ((List.length g1 : Nat) : Int)))) = true → 0 ≤ (0 : Int) ∧ (0 : Int) < ((List.length g1 : Nat) : Int))]) (by kernel_rfl) ⟨c25, trivial⟩ ?_
          refine E_tn [(0, (eL e_api_Jump f0)), (1, (eL e_api_Jump g1)), (2, (.fn (.func by2_f) by2_a by2_c)), (8, (.msl 2 lo17 0 (List.length out8))), (9, (eInt .i64 a9)), (10, (eInt .i64 b10)), (11, (eInt .i64 was11)), (12, (eInt .i64 at12)), (76, (eBool ((decide ((0 : Int) < ((List.length g1 : Nat) : Int))) && (decide (((List.getD g1 (Int.toNat (0 : Int)) default).At) = at12)))))] ?_
          refine C_cn ((decide ((0 : Int) < ((List.length g1 : Nat) : Int))) && (decide (((List.getD g1 (Int.toNat (0 : Int)) default).At) = at12))) (fun hc26 => ?_) (fun hc26 => ?_)
          · replace h1 := condT hc26 h1
            refine A_cl (C_draw (pl := plOf [81]) ttOk (by kernel_rfl) (n := 10) (by kernel_rfl) (by kernel_rfl) (by kernel_rfl) ?_)
            obtain ⟨c27, h1⟩ := asrtE h1
            obtain ⟨c28, h1⟩ := asrtE h1
            refine D_all (Ds := [0 ≤ (0 : Int) ∧ (0 : Int) < ((List.length g1 : Nat) : Int), 0 ≤ (1 : Int) ∧ (1 : Int) ≤ ((List.length g1 : Nat) : Int)]) (by kernel_rfl) ⟨c27, c28, trivial⟩ ?_
            refine E_has (l := [(0, (eL e_api_Jump f0)), (1, (eL e_api_Jump (List.drop (Int.toNat (1 : Int)) g1))), (2, (.fn (.func by2_f) by2_a by2_c)), (8, (.msl 2 lo17 0 (List.length out8))), (9, (eInt .i64 a9)), (10, (eInt .i64 (IntKind.i64.wrap (b10 + ((List.getD g1 (Int.toNat (0 : Int)) default).Net))))), (11, (eInt .i64 was11)), (12, (eInt .i64 at12))]) ⟨[(0, (eL e_api_Jump f0)), (1, (.sl false (List.length g1 - Int.toNat (1 : Int)) (fun i => e_api_Jump (List.getD g1 (Int.toNat (1 : Int) + i) default)))), (2, (.fn (.func by2_f) by2_a by2_c)), (8, (.msl 2 lo17 0 (List.length out8))), (9, (eInt .i64 a9)), (10, (eInt .i64 (IntKind.i64.wrap (b10 + ((List.getD g1 (Int.toNat (0 : Int)) default).Net))))), (11, (eInt .i64 was11)), (12, (eInt .i64 at12))], by kernel_rfl, rfl, ⟨SubV.refl _, subDrop, SubV.refl _, SubV.refl _, SubV.refl _, SubV.refl _, SubV.refl _, SubV.refl _, trivial⟩⟩ ?_
            exact E_done (thenA_normal (⟨rfl, List.drop (Int.toNat (1 : Int)) g1, out8, IntKind.i64.wrap (b10 + ((List.getD g1 (Int.toNat (0 : Int)) default).Net)), lo17, .eq (by kernel_rfl), hO, h1⟩))
          replace h1 := condF hc26 h1
          refine C_sk ?_
          refine E_hk [(0, (eL e_api_Jump f0)), (1, (eL e_api_Jump g1)), (2, (.fn (.func by2_f) by2_a by2_c)), (8, (.msl 2 lo17 0 (List.length out8))), (9, (eInt .i64 a9)), (10, (eInt .i64 b10)), (11, (eInt .i64 was11)), (12, (eInt .i64 at12))] ?_
          exact E_done (thenA_normal (⟨rfl, g1, out8, b10, lo17, .eq (by kernel_rfl), hO, h1⟩))
        refine C_sq ?_
        refine C_rg ttOk 11 ?_
        obtain ⟨c29, h1⟩ := asrtE h1
        refine R_all (Ds := [(((decide ((0 : Int) < ((List.length f0 : Nat) : Int)))) = true → 0 ≤ (0 : Int) ∧ (0 : Int) < ((List.length f0 : Nat) : Int))]) (by kernel_rfl) ⟨c29, trivial⟩ ?_
        refine E_tn [(0, (eL e_api_Jump f0)), (1, (eL e_api_Jump g1)), (2, (.fn (.func by2_f) by2_a by2_c)), (8, (.msl 2 lo16 0 (List.length out8))), (9, (eInt .i64 a9)), (10, (eInt .i64 b10)), (11, (eInt .i64 was11)), (12, (eInt .i64 at12)), (57, (eBool ((decide ((0 : Int) < ((List.length f0 : Nat) : Int))) && (decide (((List.getD f0 (Int.toNat (0 : Int)) default).At) = at12)))))] ?_
        refine C_cn ((decide ((0 : Int) < ((List.length f0 : Nat) : Int))) && (decide (((List.getD f0 (Int.toNat (0 : Int)) default).At) = at12))) (fun hc30 => ?_) (fun hc30 => ?_)
        · replace h1 := condT hc30 h1
          refine A_cl (C_draw (pl := plOf [62]) ttOk (by kernel_rfl) (n := 10) (by kernel_rfl) (by kernel_rfl) (by kernel_rfl) ?_)
          obtain ⟨c31, h1⟩ := asrtE h1
          obtain ⟨c32, h1⟩ := asrtE h1
          refine D_all (Ds := [0 ≤ (0 : Int) ∧ (0 : Int) < ((List.length f0 : Nat) : Int), 0 ≤ (1 : Int) ∧ (1 : Int) ≤ ((List.length f0 : Nat) : Int)]) (by kernel_rfl) ⟨c31, c32, trivial⟩ ?_
          refine E_has (l := [(0, (eL e_api_Jump (List.drop (Int.toNat (1 : Int)) f0))), (1, (eL e_api_Jump g1)), (2, (.fn (.func by2_f) by2_a by2_c)), (8, (.msl 2 lo16 0 (List.length out8))), (9, (eInt .i64 (IntKind.i64.wrap (a9 + ((List.getD f0 (Int.toNat (0 : Int)) default).Net))))), (10, (eInt .i64 b10)), (11, (eInt .i64 was11)), (12, (eInt .i64 at12))]) ⟨[(0, (.sl false (List.length f0 - Int.toNat (1 : Int)) (fun i => e_api_Jump (List.getD f0 (Int.toNat (1 : Int) + i) default)))), (1, (eL e_api_Jump g1)), (2, (.fn (.func by2_f) by2_a by2_c)), (8, (.msl 2 lo16 0 (List.length out8))), (9, (eInt .i64 (IntKind.i64.wrap (a9 + ((List.getD f0 (Int.toNat (0 : Int)) default).Net))))), (10, (eInt .i64 b10)), (11, (eInt .i64 was11)), (12, (eInt .i64 at12))], by kernel_rfl, rfl, ⟨subDrop, SubV.refl _, SubV.refl _, SubV.refl _, SubV.refl _, SubV.refl _, SubV.refl _, SubV.refl _, trivial⟩⟩ ?_
          exact E_done (thenA_normal (⟨rfl, List.drop (Int.toNat (1 : Int)) f0, out8, IntKind.i64.wrap (a9 + ((List.getD f0 (Int.toNat (0 : Int)) default).Net)), lo16, .eq (by kernel_rfl), hO, h1⟩))
        replace h1 := condF hc30 h1
        refine C_sk ?_
        refine E_hk [(0, (eL e_api_Jump f0)), (1, (eL e_api_Jump g1)), (2, (.fn (.func by2_f) by2_a by2_c)), (8, (.msl 2 lo16 0 (List.length out8))), (9, (eInt .i64 a9)), (10, (eInt .i64 b10)), (11, (eInt .i64 was11)), (12, (eInt .i64 at12))] ?_
        exact E_done (thenA_normal (⟨rfl, f0, out8, a9, lo16, .eq (by kernel_rfl), hO, h1⟩))
      refine C_sq ?_
      refine C_rg ttOk 3 ?_
      refine R_al ?_
      refine E_tn [(0, (eL e_api_Jump f0)), (1, (eL e_api_Jump g1)), (2, (.fn (.func by2_f) by2_a by2_c)), (8, (.msl 2 lo15 0 (List.length out8))), (9, (eInt .i64 a9)), (10, (eInt .i64 b10)), (11, (eInt .i64 was11)), (12, (eInt .i64 at12)), (40, (eBool (decide ((0 : Int) < ((List.length g1 : Nat) : Int)))))] ?_
      refine C_cn (decide ((0 : Int) < ((List.length g1 : Nat) : Int))) (fun hc33 => ?_) (fun hc33 => ?_)
      · replace h1 := condT hc33 h1
        refine C_rg ttOk 7 ?_
        obtain ⟨c34, h1⟩ := asrtE h1
        refine R_all (Ds := [0 ≤ (0 : Int) ∧ (0 : Int) < ((List.length g1 : Nat) : Int)]) (by kernel_rfl) ⟨c34, trivial⟩ ?_
        refine E_hk [(0, (eL e_api_Jump f0)), (1, (eL e_api_Jump g1)), (2, (.fn (.func by2_f) by2_a by2_c)), (8, (.msl 2 lo15 0 (List.length out8))), (9, (eInt .i64 a9)), (10, (eInt .i64 b10)), (11, (eInt .i64 was11)), (12, (eInt .i64 (if ((List.getD g1 (Int.toNat (0 : Int)) default).At) < at12 then ((List.getD g1 (Int.toNat (0 : Int)) default).At) else at12)))] ?_
        exact E_done (thenA_normal (⟨rfl, out8, if ((List.getD g1 (Int.toNat (0 : Int)) default).At) < at12 then ((List.getD g1 (Int.toNat (0 : Int)) default).At) else at12, lo15, .eq (by kernel_rfl), hO, h1⟩))
      replace h1 := condF hc33 h1
      refine C_sk ?_
      refine E_hk [(0, (eL e_api_Jump f0)), (1, (eL e_api_Jump g1)), (2, (.fn (.func by2_f) by2_a by2_c)), (8, (.msl 2 lo15 0 (List.length out8))), (9, (eInt .i64 a9)), (10, (eInt .i64 b10)), (11, (eInt .i64 was11)), (12, (eInt .i64 at12))] ?_
      exact E_done (thenA_normal (⟨rfl, out8, at12, lo15, .eq (by kernel_rfl), hO, h1⟩))
    refine C_sq ?_
    refine C_rg ttOk 3 ?_
    refine R_al ?_
    refine E_tn [(0, (eL e_api_Jump f0)), (1, (eL e_api_Jump g1)), (2, (.fn (.func by2_f) by2_a by2_c)), (8, (.msl 2 lo13 0 (List.length out8))), (9, (eInt .i64 a9)), (10, (eInt .i64 b10)), (11, (eInt .i64 was11)), (12, (eInt .i64 (1125899906842624 : Int))), (33, (eBool (decide ((0 : Int) < ((List.length f0 : Nat) : Int)))))] ?_
    refine C_cn (decide ((0 : Int) < ((List.length f0 : Nat) : Int))) (fun hc35 => ?_) (fun hc35 => ?_)
    · replace h1 := condT hc35 h1
      refine C_rg ttOk 5 ?_
      obtain ⟨c36, h1⟩ := asrtE h1
      refine R_all (Ds := [0 ≤ (0 : Int) ∧ (0 : Int) < ((List.length f0 : Nat) : Int)]) (by kernel_rfl) ⟨c36, trivial⟩ ?_
      refine E_hk [(0, (eL e_api_Jump f0)), (1, (eL e_api_Jump g1)), (2, (.fn (.func by2_f) by2_a by2_c)), (8, (.msl 2 lo13 0 (List.length out8))), (9, (eInt .i64 a9)), (10, (eInt .i64 b10)), (11, (eInt .i64 was11)), (12, (eInt .i64 ((List.getD f0 (Int.toNat (0 : Int)) default).At)))] ?_
      exact E_done (thenA_normal (⟨rfl, out8, (List.getD f0 (Int.toNat (0 : Int)) default).At, lo13, .eq (by kernel_rfl), hO, h1⟩))
    replace h1 := condF hc35 h1
    refine C_sk ?_
    refine E_hk [(0, (eL e_api_Jump f0)), (1, (eL e_api_Jump g1)), (2, (.fn (.func by2_f) by2_a by2_c)), (8, (.msl 2 lo13 0 (List.length out8))), (9, (eInt .i64 a9)), (10, (eInt .i64 b10)), (11, (eInt .i64 was11)), (12, (eInt .i64 (1125899906842624 : Int)))] ?_
    exact E_done (thenA_normal (⟨rfl, out8, (1125899906842624 : Int), lo13, .eq (by kernel_rfl), hO, h1⟩))
  replace h1 := condF hc14 h1
  refine C_ex 0 ?_
  refine E_hk [(8, (.msl 2 lo13 0 (List.length out8)))] ?_
  obtain rfl := Option.some.inj h1
  obtain rfl : _ = rr0 := ho0
  replace h0 : step_both_j1 by2 out8 = some r := h0
  exact E_done (thenA_exit (thenA_exit (blockA_hit (thenA_normal (⟨rfl, out8, lo13, .eq (by kernel_rfl), hO, h0⟩)))))

theorem w_step_Neg_1 (a0 : Int) (t1 : Int) (r : Int) (h0 : s_step_Neg_1 a0 t1 = some r) : Fine Try.prog 109 [(eInt .i64 a0), (eInt .i64 t1)] (eInt .i64 r) := by
  intro H0
  refine F_walk Try.func109 (by kernel_rfl) (by kernel_rfl) (by kernel_rfl) ?_
  have hO := Owns.start H0
  unfold s_step_Neg_1 at h0
  refine C_sq ?_
  refine C_rg ttOk 1 ?_
  refine R_al ?_
  refine E_tn [(0, (eInt .i64 a0))] ?_
  refine C_sq ?_
  refine C_rg ttOk 3 ?_
  refine R_al ?_
  refine E_tn [(4, (eInt .i64 (IntKind.i64.wrap (0 - a0))))] ?_
  refine C_rt ?_
  refine E_hk [(4, (eInt .i64 (IntKind.i64.wrap (0 - a0))))] ?_
  obtain rfl := Option.some.inj h0
  exact E_done (Q_ret (x := (eInt .i64 (IntKind.i64.wrap (0 - a0)))) (by kernel_rfl) (SubV.refl _) ⟨rfl, hO.out⟩)

theorem w_step_Neg (f0 : (List api_Jump)) (r : ((List api_Jump) × Int)) (h0 : s_step_Neg f0 = some r) : Fine Try.prog 80 [(eL e_api_Jump f0)] (.tup [(eL e_api_Jump r.1), (eInt .i64 r.2)]) := by
  intro H0
  refine F_walk Try.func80 (by kernel_rfl) (by kernel_rfl) (by kernel_rfl) ?_
  have hO := Owns.start H0
  unfold s_step_Neg at h0
  refine C_sq ?_
  refine C_rg ttOk 2 ?_
  refine R_al ?_
  refine E_tn [(0, (eL e_api_Jump f0))] ?_
  refine C_sq ?_
  refine C_rg ttOk 6 ?_
  refine R_pu 1 ?_
  obtain ⟨x1, hx2, h0⟩ := bindE h0
  refine R_cO 108 [(eL e_api_Jump f0), (.sl true 0 (fun _ => .bad)), (.fn (.func 109) [] [])] (.tup [(eL e_api_Jump x1.1), (eInt .i64 x1.2)]) (Fine.sub (w_step_both f0 ([]) 109 [] [] (fun y0 y1 => s_step_Neg_1 y0 y1) (fun y0 y1 r h => w_step_Neg_1 y0 y1 r h) _ hx2) ⟨SubV.refl _, subNilL, SubV.refl _, trivial⟩) hO ?_
  intro H hO
  refine R_al ?_
  refine E_tn [(2, (eL e_api_Jump x1.1)), (3, (eInt .i64 x1.2))] ?_
  refine C_rt ?_
  refine E_hk [(2, (eL e_api_Jump x1.1)), (3, (eInt .i64 x1.2))] ?_
  obtain rfl := Option.some.inj h0
  exact E_done (Q_ret (x := (.tup [(eL e_api_Jump x1.1), (eInt .i64 x1.2)])) (by kernel_rfl) (SubV.refl _) ⟨rfl, hO.out⟩)

theorem w_edge_Neg (l0 : (List api_Edge)) (r : ((List api_Edge) × Int)) (h0 : s_edge_Neg l0 = some r) : Fine Try.prog 38 [(eL e_api_Edge l0)] (.tup [(eL e_api_Edge r.1), (eInt .i64 r.2)]) := by
  intro H0
  refine F_walk Try.func38 (by kernel_rfl) (by kernel_rfl) (by kernel_rfl) ?_
  have hO := Owns.start H0
  unfold s_edge_Neg at h0
  refine C_sq ?_
  refine C_rg ttOk 2 ?_
  refine R_al ?_
  refine E_tn [(0, (eL e_api_Edge l0))] ?_
  refine C_sq ?_
  refine C_rg ttOk 6 ?_
  refine R_pu 1 ?_
  obtain ⟨x1, hx2, h0⟩ := bindE h0
  refine R_cO 71 [(eL e_api_Edge l0), (.fn (.func 80) [] [])] (.tup [(eL e_api_Edge x1.1), (eInt .i64 x1.2)]) (w_edge_all l0 80 [] [] (fun y0 => s_step_Neg y0) (fun y0 r h => w_step_Neg y0 r h) _ hx2) hO ?_
  intro H hO
  refine R_al ?_
  refine E_tn [(2, (eL e_api_Edge x1.1)), (3, (eInt .i64 x1.2))] ?_
  refine C_rt ?_
  refine E_hk [(2, (eL e_api_Edge x1.1)), (3, (eInt .i64 x1.2))] ?_
  obtain rfl := Option.some.inj h0
  exact E_done (Q_ret (x := (.tup [(eL e_api_Edge x1.1), (eInt .i64 x1.2)])) (by kernel_rfl) (SubV.refl _) ⟨rfl, hO.out⟩)

theorem w_law10_EdgeUndo (a0 : (List api_Edge)) (b1 : (List api_Edge)) (r : Bool) (h0 : s_law10_EdgeUndo a0 b1 = some r) : Fine Try.prog 9 [(eL e_api_Edge a0), (eL e_api_Edge b1)] (eBool r) := by
  intro H0
  refine F_walk Try.func9 (by kernel_rfl) (by kernel_rfl) (by kernel_rfl) ?_
  have hO := Owns.start H0
  unfold s_law10_EdgeUndo at h0
  refine C_sq ?_
  refine C_rg ttOk 1 ?_
  refine R_al ?_
  refine E_tn [(0, (eL e_api_Edge a0)), (1, (eL e_api_Edge b1))] ?_
  refine C_sq ?_
  refine C_sq ?_
  refine C_rg ttOk 8 ?_
  refine R_al ?_
  refine E_tn [(0, (eL e_api_Edge a0)), (1, (eL e_api_Edge b1)), (20, (eBool ((decide ((2000 : Int) < ((List.length a0 : Nat) : Int))) || (decide ((2000 : Int) < ((List.length b1 : Nat) : Int))))))] ?_
  refine C_cn ((decide ((2000 : Int) < ((List.length a0 : Nat) : Int))) || (decide ((2000 : Int) < ((List.length b1 : Nat) : Int)))) (fun hc1 => ?_) (fun hc1 => ?_)
  · replace h0 := condT hc1 h0
    refine C_sq ?_
    refine C_rg ttOk 2 ?_
    obtain ⟨x2, hx3, h0⟩ := bindE h0
    refine R_cO 22 [] (eBool x2) (w_law10_live  _ hx3) hO ?_
    intro H hO
    refine R_al ?_
    refine E_tn [(4, (eBool x2))] ?_
    refine C_rt ?_
    refine E_hk [(4, (eBool x2))] ?_
    obtain rfl := Option.some.inj h0
    exact E_done (thenA_ret (Q_ret (x := (eBool x2)) (by kernel_rfl) (SubV.refl _) ⟨rfl, hO.out⟩))
  replace h0 := condF hc1 h0
  refine C_sk ?_
  refine E_tn [(0, (eL e_api_Edge a0)), (1, (eL e_api_Edge b1))] ?_
  refine C_sq ?_
  refine C_rg ttOk 8 ?_
  refine R_pu 2 ?_
  obtain ⟨x5, hx6, h0⟩ := bindE h0
  refine R_cO 37 [(eL e_api_Edge a0), (eL e_api_Edge b1)] (.tup [(eL e_api_Edge x5.1), (eInt .i64 x5.2)]) (w_edge_Add a0 b1 _ hx6) hO ?_
  intro H hO
  refine R_al ?_
  refine E_tn [(0, (eL e_api_Edge a0)), (1, (eL e_api_Edge b1)), (5, (eL e_api_Edge x5.1)), (6, (eInt .i64 x5.2))] ?_
  refine C_sq ?_
  refine C_rg ttOk 8 ?_
  refine R_pu 2 ?_
  obtain ⟨x8, hx9, h0⟩ := bindE h0
  refine R_cO 37 [(eL e_api_Edge b1), (eL e_api_Edge a0)] (.tup [(eL e_api_Edge x8.1), (eInt .i64 x8.2)]) (w_edge_Add b1 a0 _ hx9) hO ?_
  intro H hO
  refine R_al ?_
  refine E_tn [(0, (eL e_api_Edge a0)), (1, (eL e_api_Edge b1)), (5, (eL e_api_Edge x5.1)), (6, (eInt .i64 x5.2)), (7, (eL e_api_Edge x8.1)), (8, (eInt .i64 x8.2))] ?_
  refine C_sq ?_
  refine C_sq ?_
  refine C_rg ttOk 9 ?_
  refine R_pu 6 ?_
  obtain ⟨x11, hx12, h0⟩ := bindE h0
  refine R_callO [(37, false)] 16 [(eL e_api_Edge x5.1), (eL e_api_Edge x8.1)] (eBool x11) (!(!decide (x5.2 = x8.2))) (by kernel_rfl) (by kernel_rfl) (by kernel_rfl) (fun hb13 => (w_ref10_Same x5.1 x8.1 _ (gcallE hx12 hb13))) hO ?_
  intro H hO
  refine R_al ?_
  refine E_tn [(0, (eL e_api_Edge a0)), (1, (eL e_api_Edge b1)), (5, (eL e_api_Edge x5.1)), (6, (eInt .i64 x5.2)), (42, (eBool ((!decide (x5.2 = x8.2)) || (!x11))))] ?_
  refine C_cn ((!decide (x5.2 = x8.2)) || (!x11)) (fun hc14 => ?_) (fun hc14 => ?_)
  · replace h0 := condT hc14 h0
    refine C_sq ?_
    refine C_rg ttOk 1 ?_
    refine R_al ?_
    refine E_tn [(4, (eBool false))] ?_
    refine C_rt ?_
    refine E_hk [(4, (eBool false))] ?_
    obtain rfl := Option.some.inj h0
    exact E_done (thenA_ret (Q_ret (x := (eBool false)) (by kernel_rfl) (SubV.refl _) ⟨rfl, hO.out⟩))
  replace h0 := condF hc14 h0
  refine C_sk ?_
  refine E_tn [(0, (eL e_api_Edge a0)), (1, (eL e_api_Edge b1)), (5, (eL e_api_Edge x5.1)), (6, (eInt .i64 x5.2))] ?_
  refine C_sq ?_
  refine C_sq ?_
  refine C_rg ttOk 2 ?_
  refine R_al ?_
  refine E_tn [(0, (eL e_api_Edge a0)), (1, (eL e_api_Edge b1)), (5, (eL e_api_Edge x5.1)), (44, (eBool (!decide (x5.2 = (0 : Int)))))] ?_
  refine C_cn (!decide (x5.2 = (0 : Int))) (fun hc15 => ?_) (fun hc15 => ?_)
  · replace h0 := condT hc15 h0
    refine C_sq ?_
    refine C_rg ttOk 2 ?_
    obtain ⟨x16, hx17, h0⟩ := bindE h0
    refine R_cO 22 [] (eBool x16) (w_law10_live  _ hx17) hO ?_
    intro H hO
    refine R_al ?_
    refine E_tn [(4, (eBool x16))] ?_
    refine C_rt ?_
    refine E_hk [(4, (eBool x16))] ?_
    obtain rfl := Option.some.inj h0
    exact E_done (thenA_ret (Q_ret (x := (eBool x16)) (by kernel_rfl) (SubV.refl _) ⟨rfl, hO.out⟩))
  replace h0 := condF hc15 h0
  refine C_sk ?_
  refine E_tn [(0, (eL e_api_Edge a0)), (1, (eL e_api_Edge b1)), (5, (eL e_api_Edge x5.1))] ?_
  refine C_sq ?_
  refine C_rg ttOk 7 ?_
  refine R_pu 1 ?_
  obtain ⟨x19, hx20, h0⟩ := bindE h0
  refine R_cO 38 [(eL e_api_Edge b1)] (.tup [(eL e_api_Edge x19.1), (eInt .i64 x19.2)]) (w_edge_Neg b1 _ hx20) hO ?_
  intro H hO
  refine R_al ?_
  refine E_tn [(0, (eL e_api_Edge a0)), (5, (eL e_api_Edge x5.1)), (9, (eL e_api_Edge x19.1)), (10, (eInt .i64 x19.2))] ?_
  refine C_sq ?_
  refine C_rg ttOk 8 ?_
  refine R_pu 2 ?_
  obtain ⟨x22, hx23, h0⟩ := bindE h0
  refine R_cO 37 [(eL e_api_Edge x5.1), (eL e_api_Edge x19.1)] (.tup [(eL e_api_Edge x22.1), (eInt .i64 x22.2)]) (w_edge_Add x5.1 x19.1 _ hx23) hO ?_
  intro H hO
  refine R_al ?_
  refine E_tn [(0, (eL e_api_Edge a0)), (10, (eInt .i64 x19.2)), (11, (eL e_api_Edge x22.1)), (12, (eInt .i64 x22.2))] ?_
  refine C_sq ?_
  refine C_rg ttOk 15 ?_
  obtain ⟨x25, hx26, h0⟩ := bindE h0
  refine R_cO 22 [] (eBool x25) (w_law10_live  _ hx26) hO ?_
  intro H hO
  refine R_pu 12 ?_
  obtain ⟨x28, hx29, h0⟩ := bindE h0
  refine R_callO [(66, true)] 16 [(eL e_api_Edge x22.1), (eL e_api_Edge a0)] (eBool x28) ((x25 && (decide (x19.2 = (0 : Int)))) && (decide (x22.2 = (0 : Int)))) (by kernel_rfl) (by kernel_rfl) (by kernel_rfl) (fun hb30 => (w_ref10_Same x22.1 a0 _ (gcallE hx29 hb30))) hO ?_
  intro H hO
  refine R_al ?_
  refine E_tn [(4, (eBool (((x25 && (decide (x19.2 = (0 : Int)))) && (decide (x22.2 = (0 : Int)))) && x28)))] ?_
  refine C_rt ?_
  refine E_hk [(4, (eBool (((x25 && (decide (x19.2 = (0 : Int)))) && (decide (x22.2 = (0 : Int)))) && x28)))] ?_
  obtain rfl := Option.some.inj h0
  exact E_done (Q_ret (x := (eBool (((x25 && (decide (x19.2 = (0 : Int)))) && (decide (x22.2 = (0 : Int)))) && x28))) (by kernel_rfl) (SubV.refl _) ⟨rfl, hO.out⟩)

end Go.Abs
namespace Go.Abs
open Go Go.RowKit Go.Proofs
theorem opens_api_Value_60 {H : Type} {enc : TypeId × Value → H} {w : World} : Opens enc Try.prog w 60 e_api_Value ok_api_Value :=
  opens_struct Try.underlying60 (by kernel_rfl) (opensF_cons (c' := c_api_Value) (ok' := ok_api_Value) (fun (a : Int) (b : Int × ByteArray × Unit) => (api_Value.mk a b.1 b.2.1 : api_Value)) (by kernel_rfl) (opens_i64 Try.underlying58) (opensF_cons (c' := fun (b : Int × ByteArray × Unit) => (V.cells (eInt .i64 b.1) ++ (V.cells (eStr b.2.1) ++ []))) (ok' := fun b => (in64 b.1 ∧ ((fun s => s.size ≤ maxLen) b.2.1 ∧ True))) (fun a b => (a, b)) (by kernel_rfl) (opens_i64 Try.underlying3) (opensF_cons (c' := fun (b : ByteArray × Unit) => (V.cells (eStr b.1) ++ [])) (ok' := fun b => ((fun s => s.size ≤ maxLen) b.1 ∧ True)) (fun a b => (a, b)) (by kernel_rfl) (opens_string Try.underlying9) (opensF_nil ()) (fun _ _ => rfl) (fun _ _ h1 h2 => ⟨h1, h2⟩)) (fun _ _ => rfl) (fun _ _ h1 h2 => ⟨h1, h2⟩)) (fun _ _ => rfl) (fun _ _ h1 h2 => ⟨h1, h2⟩))

theorem opens_api_Edge_36 {H : Type} {enc : TypeId × Value → H} {w : World} : Opens enc Try.prog w 36 e_api_Edge ok_api_Edge :=
  opens_struct Try.underlying36 (by kernel_rfl) (opensF_cons (c' := c_api_Edge) (ok' := ok_api_Edge) (fun (a : (List api_Value)) (b : Int × Int × Unit) => (api_Edge.mk a b.1 b.2.1 : api_Edge)) (by kernel_rfl) (opens_slice Try.underlying34 (by decide +kernel) (fun _ => by kernel_rfl) (fun _ => rfl) opens_api_Value_60 (by kernel_rfl)) (opensF_cons (c' := fun (b : Int × Int × Unit) => (V.cells (eInt .i64 b.1) ++ (V.cells (eInt .i64 b.2.1) ++ []))) (ok' := fun b => (in64 b.1 ∧ (in64 b.2.1 ∧ True))) (fun a b => (a, b)) (by kernel_rfl) (opens_i64 Try.underlying3) (opensF_cons (c' := fun (b : Int × Unit) => (V.cells (eInt .i64 b.1) ++ [])) (ok' := fun b => (in64 b.1 ∧ True)) (fun a b => (a, b)) (by kernel_rfl) (opens_i64 Try.underlying3) (opensF_nil ()) (fun _ _ => rfl) (fun _ _ h1 h2 => ⟨h1, h2⟩)) (fun _ _ => rfl) (fun _ _ h1 h2 => ⟨h1, h2⟩)) (fun _ _ => rfl) (fun _ _ h1 h2 => ⟨h1, h2⟩))

end Go.Abs
namespace Go.Abs
open Go
theorem wrap_in {n : Int} (h1 : -9223372036854775808 ≤ n) (h2 : n ≤ 9223372036854775807) : IntKind.i64.wrap n = n := by
  simp only [IntKind.wrap, IntKind.bits, IntKind.signed]
  simp
  split <;> omega

/-- A list gone through, with an end in its midst. -/
def foldE {α st R : Type} (step : st → α → Option (st ⊕ R)) (fin : st → R) : st → List α → Option R
  | s, [] => some (fin s)
  | s, a :: r => match step s a with
    | some (.inl s') => foldE step fin s' r
    | some (.inr x) => some x
    | none => none

theorem foldE_next {α st R : Type} {step : st → α → Option (st ⊕ R)} {fin : st → R} {s s' : st} {a : α} {r : List α} (h : step s a = some (.inl s')) : foldE step fin s (a :: r) = foldE step fin s' r := by
  simp only [foldE, h]

theorem foldE_last {α st R : Type} {step : st → α → Option (st ⊕ R)} {fin : st → R} {s : st} {x : R} {a : α} {r : List α} (h : step s a = some (.inr x)) : foldE step fin s (a :: r) = some x := by
  simp only [foldE, h]

/-- A loop over a list, by its index. -/
theorem lp_list {α S st R : Type} {body : S → Option (S ⊕ R)} {l : List α} (mk : st → Int → S) (step : st → α → Option (st ⊕ R)) (fin : st → R)
    (hn : ∀ (i : Nat) a s, l[i]? = some a → (∀ s', step s a = some (.inl s') → body (mk s i) = some (.inl (mk s' ((i + 1 : Nat) : Int)))) ∧ (∀ x, step s a = some (.inr x) → body (mk s i) = some (.inr x)))
    (he : ∀ s, body (mk s (l.length : Nat)) = some (.inr (fin s))) : ∀ (m k : Nat) (s : st) (r : R), l.length - k = m → k ≤ l.length → foldE step fin s (l.drop k) = some r → lp body (mk s k) = some r
  | 0, k, s, r, hm, hk, h => by
    have : k = l.length := by omega
    subst this
    rw [List.drop_length] at h
    simp only [foldE, Option.some.injEq] at h
    subst h
    exact lp_last (he s)
  | m + 1, k, s, r, hm, hk, h => by
    have hlt : k < l.length := by omega
    have hd : l.drop k = l[k] :: l.drop (k + 1) := List.drop_eq_getElem_cons hlt
    rw [hd] at h
    simp only [foldE] at h
    obtain ⟨h1, h2⟩ := hn k l[k] s (List.getElem?_eq_getElem hlt)
    split at h
    · rename_i s' hs
      rw [lp_next (h1 s' hs)]
      exact lp_list mk step fin hn he m (k + 1) s' r (by omega) (by omega) h
    · rename_i x hs
      simp at h; subst h
      exact lp_last (h2 x hs)
    · cases h

theorem lp_list0 {α S st R : Type} {body : S → Option (S ⊕ R)} {l : List α} (mk : st → Int → S) (step : st → α → Option (st ⊕ R)) (fin : st → R)
    (hn : ∀ (i : Nat) a s, l[i]? = some a → (∀ s', step s a = some (.inl s') → body (mk s i) = some (.inl (mk s' ((i + 1 : Nat) : Int)))) ∧ (∀ x, step s a = some (.inr x) → body (mk s i) = some (.inr x)))
    (he : ∀ s, body (mk s (l.length : Nat)) = some (.inr (fin s))) {s : st} {r : R} (h : foldE step fin s l = some r) : lp body (mk s 0) = some r :=
  lp_list mk step fin hn he _ 0 s r rfl (Nat.zero_le _) (by simpa using h)

theorem idx {α : Type} [Inhabited α] {l : List α} {i : Nat} {a : α} (h : l[i]? = some a) (hl : l.length < 4611686018427387904) :
    decide ((i : Int) < ((l.length : Nat) : Int)) = true ∧ (0 ≤ (i : Int) ∧ (i : Int) < ((l.length : Nat) : Int)) ∧ l.getD (Int.toNat (i : Int)) default = a ∧ IntKind.i64.wrap ((i : Int) + 1) = ((i + 1 : Nat) : Int) := by
  have hlt : i < l.length := (List.getElem?_eq_some_iff.1 h).1
  refine ⟨by simpa using hlt, ⟨by omega, by omega⟩, ?_, ?_⟩
  · rw [Int.toNat_natCast, List.getD_eq_getElem?_getD, h]; rfl
  · rw [wrap_in (by omega) (by omega)]; omega

theorem idx_end {n : Nat} : decide (((n : Nat) : Int) < ((n : Nat) : Int)) = false := by simp

theorem len_pos {α : Type} {j : α} {r : List α} : decide ((0 : Int) < ((List.length (j :: r) : Nat) : Int)) = true := by simp

theorem len_nil {α : Type} : decide ((0 : Int) < ((List.length ([] : List α) : Nat) : Int)) = false := rfl

theorem at_0 {α : Type} {j : α} {r : List α} : (0 : Int) ≤ 0 ∧ (0 : Int) < ((List.length (j :: r) : Nat) : Int) := ⟨by omega, by simp⟩

theorem at_1 {α : Type} {j : α} {r : List α} : (0 : Int) ≤ 1 ∧ (1 : Int) ≤ ((List.length (j :: r) : Nat) : Int) := ⟨by omega, by simp; omega⟩

theorem getD_0 {α : Type} [Inhabited α] {j : α} {r : List α} : List.getD (j :: r) (Int.toNat (0 : Int)) default = j := rfl

theorem drop_1 {α : Type} {j : α} {r : List α} : List.drop (Int.toNat (1 : Int)) (j :: r) = r := rfl

end Go.Abs
namespace Go.Abs
open Go
theorem drop_cons {α : Type} {l r : List α} {a : α} {k : Nat} (h : l.drop k = a :: r) : l[k]? = some a ∧ l.drop (k + 1) = r := by
  have hk : k < l.length := by
    apply Classical.byContradiction; intro hn
    rw [List.drop_eq_nil_of_le (by omega)] at h; cases h
  rw [List.drop_eq_getElem_cons hk] at h
  obtain ⟨h1, h2⟩ := List.cons.inj h
  exact ⟨by rw [List.getElem?_eq_getElem hk, h1], h2⟩

/-- A loop over a list: what it comes to, told by its state and by what is left. -/
theorem lp_suf {α S st R : Type} {body : S → Option (S ⊕ R)} {l : List α} (mk : st → Int → S) (G : st → List α → R) (Inv : st → List α → Prop)
    (hn : ∀ (i : Nat) a r s, l[i]? = some a → Inv s (a :: r) → (∃ s', body (mk s i) = some (.inl (mk s' ((i + 1 : Nat) : Int))) ∧ Inv s' r ∧ G s' r = G s (a :: r)) ∨ body (mk s i) = some (.inr (G s (a :: r))))
    (he : ∀ s, Inv s [] → body (mk s (l.length : Nat)) = some (.inr (G s []))) : ∀ (r : List α) (k : Nat) (s : st), l.drop k = r → k ≤ l.length → Inv s r → lp body (mk s k) = some (G s r)
  | [], k, s, hd, hk, hi => by
    have : k = l.length := by
      have := congrArg List.length hd
      simp only [List.length_drop, List.length_nil] at this; omega
    subst this
    exact lp_last (he s hi)
  | a :: r, k, s, hd, hk, hi => by
    obtain ⟨h1, h2⟩ := drop_cons hd
    have hlt : k < l.length := (List.getElem?_eq_some_iff.1 h1).1
    rcases hn k a r s h1 hi with ⟨s', hb, hi', hg⟩ | hb
    · rw [lp_next hb, lp_suf mk G Inv hn he r (k + 1) s' h2 (by omega) hi', hg]
    · exact lp_last hb

theorem lp_suf0 {α S st R : Type} {body : S → Option (S ⊕ R)} {l : List α} (mk : st → Int → S) (G : st → List α → R) (Inv : st → List α → Prop) (s : st)
    (hn : ∀ (i : Nat) a r s, l[i]? = some a → Inv s (a :: r) → (∃ s', body (mk s i) = some (.inl (mk s' ((i + 1 : Nat) : Int))) ∧ Inv s' r ∧ G s' r = G s (a :: r)) ∨ body (mk s i) = some (.inr (G s (a :: r))))
    (he : ∀ s, Inv s [] → body (mk s (l.length : Nat)) = some (.inr (G s []))) (hi : Inv s l) : lp body (mk s 0) = some (G s l) :=
  lp_suf mk G Inv hn he l 0 s rfl (Nat.zero_le _) hi

end Go.Abs
namespace Go.Abs
open Go
noncomputable def g_insertionSort_j2 {α : Type} [Inhabited α] (cmp3 : α → α → Option Int) (data0 : List α) (a1 : Int) (b2 : Int) (i8 : Int) : Option ((List α × Int) ⊕ ((List α))) :=
  some (.inl (data0, IntKind.i64.wrap (i8 + (1 : Int))))

noncomputable def g_insertionSort_l3 {α : Type} [Inhabited α] (cmp3 : α → α → Option Int) (a1 : Int) (b2 : Int) (i8 : Int) (data0 : List α) (j9 : Int) : Option ((List α × Int) ⊕ ((List α))) :=
  asrt ((((decide (a1 < j9))) = true → 0 ≤ j9 ∧ j9 < ((List.length data0 : Nat) : Int))) <|
  asrt ((((decide (a1 < j9))) = true → 0 ≤ (IntKind.i64.wrap (j9 - (1 : Int))) ∧ (IntKind.i64.wrap (j9 - (1 : Int))) < ((List.length data0 : Nat) : Int))) <|
  (gcall (decide (a1 < j9)) (cmp3 (List.getD data0 (Int.toNat j9) default) (List.getD data0 (Int.toNat (IntKind.i64.wrap (j9 - (1 : Int)))) default))).bind fun x3 =>
  cond ((decide (a1 < j9)) && (decide (x3 < (0 : Int))))
  (asrt (0 ≤ (IntKind.i64.wrap (j9 - (1 : Int))) ∧ (IntKind.i64.wrap (j9 - (1 : Int))) < ((List.length data0 : Nat) : Int)) <|
  asrt (0 ≤ j9 ∧ j9 < ((List.length data0 : Nat) : Int)) <|
  asrt (0 ≤ j9 ∧ j9 < ((List.length data0 : Nat) : Int)) <|
  asrt (0 ≤ (IntKind.i64.wrap (j9 - (1 : Int))) ∧ (IntKind.i64.wrap (j9 - (1 : Int))) < ((List.length data0 : Nat) : Int)) <|
  some (.inl (List.set (List.set data0 (Int.toNat j9) (List.getD data0 (Int.toNat (IntKind.i64.wrap (j9 - (1 : Int)))) default)) (Int.toNat (IntKind.i64.wrap (j9 - (1 : Int)))) (List.getD data0 (Int.toNat j9) default), IntKind.i64.wrap (j9 - (1 : Int)))))
  (some (.inr data0))

noncomputable def g_insertionSort_h3 {α : Type} [Inhabited α] (cmp3 : α → α → Option Int) (data0 : List α) (a1 : Int) (b2 : Int) (i8 : Int) (j9 : Int) : Option ((List α × Int) ⊕ ((List α))) :=
  (lp (fun s => g_insertionSort_l3 cmp3 a1 b2 i8 s.1 s.2) (data0, j9)).bind (fun rr => g_insertionSort_j2 cmp3 rr a1 b2 i8)

noncomputable def g_insertionSort_l1 {α : Type} [Inhabited α] (cmp3 : α → α → Option Int) (a1 : Int) (b2 : Int) (data0 : List α) (i8 : Int) : Option ((List α × Int) ⊕ ((List α))) :=
  cond (decide (i8 < b2))
  (g_insertionSort_h3 cmp3 data0 a1 b2 i8 i8)
  (some (.inr data0))

noncomputable def g_insertionSort_h1 {α : Type} [Inhabited α] (cmp3 : α → α → Option Int) (data0 : List α) (a1 : Int) (b2 : Int) (i8 : Int) : Option (List α) :=
  (lp (fun s => g_insertionSort_l1 cmp3 a1 b2 s.1 s.2) (data0, i8)).bind (fun rr => some rr)

noncomputable def gs_insertionSort {α : Type} [Inhabited α] (data0 : (List α)) (a1 : Int) (b2 : Int) (cmp3 : α → α → Option Int) : Option (List α) :=
  g_insertionSort_h1 cmp3 data0 a1 b2 (IntKind.i64.wrap (a1 + (1 : Int)))

noncomputable def g_swapRange_l1 {α : Type} [Inhabited α] (cmp4 : α → α → Option Int) (a1 : Int) (b2 : Int) (n3 : Int) (data0 : List α) (i10 : Int) : Option ((List α × Int) ⊕ ((List α))) :=
  cond (decide (i10 < n3))
  (asrt (0 ≤ (IntKind.i64.wrap (b2 + i10)) ∧ (IntKind.i64.wrap (b2 + i10)) < ((List.length data0 : Nat) : Int)) <|
  asrt (0 ≤ (IntKind.i64.wrap (a1 + i10)) ∧ (IntKind.i64.wrap (a1 + i10)) < ((List.length data0 : Nat) : Int)) <|
  asrt (0 ≤ (IntKind.i64.wrap (a1 + i10)) ∧ (IntKind.i64.wrap (a1 + i10)) < ((List.length data0 : Nat) : Int)) <|
  asrt (0 ≤ (IntKind.i64.wrap (b2 + i10)) ∧ (IntKind.i64.wrap (b2 + i10)) < ((List.length data0 : Nat) : Int)) <|
  some (.inl (List.set (List.set data0 (Int.toNat (IntKind.i64.wrap (a1 + i10))) (List.getD data0 (Int.toNat (IntKind.i64.wrap (b2 + i10))) default)) (Int.toNat (IntKind.i64.wrap (b2 + i10))) (List.getD data0 (Int.toNat (IntKind.i64.wrap (a1 + i10))) default), IntKind.i64.wrap (i10 + (1 : Int)))))
  (some (.inr data0))

noncomputable def g_swapRange_h1 {α : Type} [Inhabited α] (cmp4 : α → α → Option Int) (data0 : List α) (a1 : Int) (b2 : Int) (n3 : Int) (i10 : Int) : Option (List α) :=
  (lp (fun s => g_swapRange_l1 cmp4 a1 b2 n3 s.1 s.2) (data0, i10)).bind (fun rr => some rr)

noncomputable def gs_swapRange {α : Type} [Inhabited α] (data0 : (List α)) (a1 : Int) (b2 : Int) (n3 : Int) (cmp4 : α → α → Option Int) : Option (List α) :=
  g_swapRange_h1 cmp4 data0 a1 b2 n3 (0 : Int)

noncomputable def g_rotate_j1 {α : Type} [Inhabited α] (cmp4 : α → α → Option Int) (data0 : List α) (m2 : Int) (i10 : Int) : Option (List α) :=
  (gs_swapRange data0 (IntKind.i64.wrap (m2 - i10)) m2 i10 cmp4).bind fun x1 =>
  some x1

noncomputable def g_rotate_l2 {α : Type} [Inhabited α] (cmp4 : α → α → Option Int) (m2 : Int) (data0 : List α) (i10 : Int) (j11 : Int) : Option ((List α × Int × Int) ⊕ ((List α × Int))) :=
  cond (!decide (i10 = j11))
  (cond (decide (j11 < i10))
  ((gs_swapRange data0 (IntKind.i64.wrap (m2 - i10)) m2 j11 cmp4).bind fun x4 =>
  some (.inl (x4, IntKind.i64.wrap (i10 - j11), j11)))
  ((gs_swapRange data0 (IntKind.i64.wrap (m2 - i10)) (IntKind.i64.wrap ((IntKind.i64.wrap (m2 + j11)) - i10)) i10 cmp4).bind fun x7 =>
  some (.inl (x7, i10, IntKind.i64.wrap (j11 - i10)))))
  (some (.inr (data0, i10)))

noncomputable def g_rotate_h2 {α : Type} [Inhabited α] (cmp4 : α → α → Option Int) (data0 : List α) (m2 : Int) (i10 : Int) (j11 : Int) : Option (List α) :=
  (lp (fun s => g_rotate_l2 cmp4 m2 s.1 s.2.1 s.2.2) (data0, i10, j11)).bind (fun rr => g_rotate_j1 cmp4 rr.1 m2 rr.2)

noncomputable def gs_rotate {α : Type} [Inhabited α] (data0 : (List α)) (a1 : Int) (m2 : Int) (b3 : Int) (cmp4 : α → α → Option Int) : Option (List α) :=
  g_rotate_h2 cmp4 data0 m2 (IntKind.i64.wrap (m2 - a1)) (IntKind.i64.wrap (b3 - m2))

noncomputable def g_symMerge_j6 {α : Type} [Inhabited α] (cmp4 : α → α → Option Int) (rec : (List α) → Int → Int → Int → Option (List α)) (data0 : List α) (b3 : Int) (mid18 : Int) (end24 : Int) : Option (List α) :=
  cond ((decide (mid18 < end24)) && (decide (end24 < b3)))
  ((rec data0 mid18 end24 b3).bind fun x2 =>
  some x2)
  (some data0)

noncomputable def g_symMerge_j5 {α : Type} [Inhabited α] (cmp4 : α → α → Option Int) (rec : (List α) → Int → Int → Int → Option (List α)) (data0 : List α) (a1 : Int) (b3 : Int) (mid18 : Int) (start20 : Int) (end24 : Int) : Option (List α) :=
  cond ((decide (a1 < start20)) && (decide (start20 < mid18)))
  ((rec data0 a1 start20 mid18).bind fun x6 =>
  g_symMerge_j6 cmp4 rec x6 b3 mid18 end24)
  (g_symMerge_j6 cmp4 rec data0 b3 mid18 end24)

noncomputable def g_symMerge_j4 {α : Type} [Inhabited α] (cmp4 : α → α → Option Int) (rec : (List α) → Int → Int → Int → Option (List α)) (data0 : List α) (a1 : Int) (m2 : Int) (b3 : Int) (mid18 : Int) (n19 : Int) (start20 : Int) : Option (List α) :=
  cond ((decide (start20 < m2)) && (decide (m2 < (IntKind.i64.wrap (n19 - start20)))))
  ((gs_rotate data0 start20 m2 (IntKind.i64.wrap (n19 - start20)) cmp4).bind fun x10 =>
  g_symMerge_j5 cmp4 rec x10 a1 b3 mid18 start20 (IntKind.i64.wrap (n19 - start20)))
  (g_symMerge_j5 cmp4 rec data0 a1 b3 mid18 start20 (IntKind.i64.wrap (n19 - start20)))

noncomputable def g_symMerge_l7 {α : Type} [Inhabited α] (cmp4 : α → α → Option Int) (rec : (List α) → Int → Int → Int → Option (List α)) (a1 : Int) (m2 : Int) (b3 : Int) (mid18 : Int) (n19 : Int) (p22 : Int) (data0 : List α) (start20 : Int) (r21 : Int) : Option ((List α × Int × Int) ⊕ ((List α × Int))) :=
  cond (decide (start20 < r21))
  (asrt (0 ≤ (1 : Int)) <|
  asrt (0 ≤ (IntKind.i64.wrap (p22 - (IntKind.i64.wrap (Int.fdiv (IntKind.u64.wrap (IntKind.i64.wrap (start20 + r21))) (2 ^ (min (Int.toNat (1 : Int)) 64)))))) ∧ (IntKind.i64.wrap (p22 - (IntKind.i64.wrap (Int.fdiv (IntKind.u64.wrap (IntKind.i64.wrap (start20 + r21))) (2 ^ (min (Int.toNat (1 : Int)) 64)))))) < ((List.length data0 : Nat) : Int)) <|
  asrt (0 ≤ (IntKind.i64.wrap (Int.fdiv (IntKind.u64.wrap (IntKind.i64.wrap (start20 + r21))) (2 ^ (min (Int.toNat (1 : Int)) 64)))) ∧ (IntKind.i64.wrap (Int.fdiv (IntKind.u64.wrap (IntKind.i64.wrap (start20 + r21))) (2 ^ (min (Int.toNat (1 : Int)) 64)))) < ((List.length data0 : Nat) : Int)) <|
  (cmp4 (List.getD data0 (Int.toNat (IntKind.i64.wrap (p22 - (IntKind.i64.wrap (Int.fdiv (IntKind.u64.wrap (IntKind.i64.wrap (start20 + r21))) (2 ^ (min (Int.toNat (1 : Int)) 64))))))) default) (List.getD data0 (Int.toNat (IntKind.i64.wrap (Int.fdiv (IntKind.u64.wrap (IntKind.i64.wrap (start20 + r21))) (2 ^ (min (Int.toNat (1 : Int)) 64))))) default)).bind fun x17 =>
  cond (!(decide (x17 < (0 : Int))))
  (some (.inl (data0, IntKind.i64.wrap ((IntKind.i64.wrap (Int.fdiv (IntKind.u64.wrap (IntKind.i64.wrap (start20 + r21))) (2 ^ (min (Int.toNat (1 : Int)) 64)))) + (1 : Int)), r21)))
  (some (.inl (data0, start20, IntKind.i64.wrap (Int.fdiv (IntKind.u64.wrap (IntKind.i64.wrap (start20 + r21))) (2 ^ (min (Int.toNat (1 : Int)) 64)))))))
  (some (.inr (data0, start20)))

noncomputable def g_symMerge_h7 {α : Type} [Inhabited α] (cmp4 : α → α → Option Int) (rec : (List α) → Int → Int → Int → Option (List α)) (data0 : List α) (a1 : Int) (m2 : Int) (b3 : Int) (mid18 : Int) (n19 : Int) (start20 : Int) (r21 : Int) (p22 : Int) : Option (List α) :=
  (lp (fun s => g_symMerge_l7 cmp4 rec a1 m2 b3 mid18 n19 p22 s.1 s.2.1 s.2.2) (data0, start20, r21)).bind (fun rr => g_symMerge_j4 cmp4 rec rr.1 a1 m2 b3 mid18 n19 rr.2)

noncomputable def g_symMerge_j3 {α : Type} [Inhabited α] (cmp4 : α → α → Option Int) (rec : (List α) → Int → Int → Int → Option (List α)) (data0 : List α) (a1 : Int) (m2 : Int) (b3 : Int) (mid18 : Int) (n19 : Int) (start20 : Int) (r21 : Int) : Option (List α) :=
  g_symMerge_h7 cmp4 rec data0 a1 m2 b3 mid18 n19 start20 r21 (IntKind.i64.wrap (n19 - (1 : Int)))

noncomputable def g_symMerge_j2 {α : Type} [Inhabited α] (cmp4 : α → α → Option Int) (rec : (List α) → Int → Int → Int → Option (List α)) (data0 : List α) (a1 : Int) (m2 : Int) (b3 : Int) : Option (List α) :=
  asrt (0 ≤ (1 : Int)) <|
  cond (decide ((IntKind.i64.wrap (Int.fdiv (IntKind.u64.wrap (IntKind.i64.wrap (a1 + b3))) (2 ^ (min (Int.toNat (1 : Int)) 64)))) < m2))
  (g_symMerge_j3 cmp4 rec data0 a1 m2 b3 (IntKind.i64.wrap (Int.fdiv (IntKind.u64.wrap (IntKind.i64.wrap (a1 + b3))) (2 ^ (min (Int.toNat (1 : Int)) 64)))) (IntKind.i64.wrap ((IntKind.i64.wrap (Int.fdiv (IntKind.u64.wrap (IntKind.i64.wrap (a1 + b3))) (2 ^ (min (Int.toNat (1 : Int)) 64)))) + m2)) (IntKind.i64.wrap ((IntKind.i64.wrap ((IntKind.i64.wrap (Int.fdiv (IntKind.u64.wrap (IntKind.i64.wrap (a1 + b3))) (2 ^ (min (Int.toNat (1 : Int)) 64)))) + m2)) - b3)) (IntKind.i64.wrap (Int.fdiv (IntKind.u64.wrap (IntKind.i64.wrap (a1 + b3))) (2 ^ (min (Int.toNat (1 : Int)) 64)))))
  (g_symMerge_j3 cmp4 rec data0 a1 m2 b3 (IntKind.i64.wrap (Int.fdiv (IntKind.u64.wrap (IntKind.i64.wrap (a1 + b3))) (2 ^ (min (Int.toNat (1 : Int)) 64)))) (IntKind.i64.wrap ((IntKind.i64.wrap (Int.fdiv (IntKind.u64.wrap (IntKind.i64.wrap (a1 + b3))) (2 ^ (min (Int.toNat (1 : Int)) 64)))) + m2)) a1 m2)

noncomputable def g_symMerge_j9 {α : Type} [Inhabited α] (cmp4 : α → α → Option Int) (rec : (List α) → Int → Int → Int → Option (List α)) (data0 : List α) : Option (List α) :=
  some data0

noncomputable def g_symMerge_l10 {α : Type} [Inhabited α] (cmp4 : α → α → Option Int) (rec : (List α) → Int → Int → Int → Option (List α)) (i14 : Int) (data0 : List α) (k17 : Int) : Option ((List α × Int) ⊕ ((List α))) :=
  cond (decide (i14 < k17))
  (asrt (0 ≤ (IntKind.i64.wrap (k17 - (1 : Int))) ∧ (IntKind.i64.wrap (k17 - (1 : Int))) < ((List.length data0 : Nat) : Int)) <|
  asrt (0 ≤ k17 ∧ k17 < ((List.length data0 : Nat) : Int)) <|
  asrt (0 ≤ k17 ∧ k17 < ((List.length data0 : Nat) : Int)) <|
  asrt (0 ≤ (IntKind.i64.wrap (k17 - (1 : Int))) ∧ (IntKind.i64.wrap (k17 - (1 : Int))) < ((List.length data0 : Nat) : Int)) <|
  some (.inl (List.set (List.set data0 (Int.toNat k17) (List.getD data0 (Int.toNat (IntKind.i64.wrap (k17 - (1 : Int)))) default)) (Int.toNat (IntKind.i64.wrap (k17 - (1 : Int)))) (List.getD data0 (Int.toNat k17) default), IntKind.i64.wrap (k17 - (1 : Int)))))
  (some (.inr data0))

noncomputable def g_symMerge_h10 {α : Type} [Inhabited α] (cmp4 : α → α → Option Int) (rec : (List α) → Int → Int → Int → Option (List α)) (data0 : List α) (i14 : Int) (k17 : Int) : Option (List α) :=
  (lp (fun s => g_symMerge_l10 cmp4 rec i14 s.1 s.2) (data0, k17)).bind (fun rr => g_symMerge_j9 cmp4 rec rr)

noncomputable def g_symMerge_j8 {α : Type} [Inhabited α] (cmp4 : α → α → Option Int) (rec : (List α) → Int → Int → Int → Option (List α)) (data0 : List α) (m2 : Int) (i14 : Int) : Option (List α) :=
  g_symMerge_h10 cmp4 rec data0 i14 m2

noncomputable def g_symMerge_l11 {α : Type} [Inhabited α] (cmp4 : α → α → Option Int) (rec : (List α) → Int → Int → Int → Option (List α)) (m2 : Int) (data0 : List α) (i14 : Int) (j15 : Int) : Option ((List α × Int × Int) ⊕ ((List α × Int))) :=
  cond (decide (i14 < j15))
  (asrt (0 ≤ (1 : Int)) <|
  asrt (0 ≤ m2 ∧ m2 < ((List.length data0 : Nat) : Int)) <|
  asrt (0 ≤ (IntKind.i64.wrap (Int.fdiv (IntKind.u64.wrap (IntKind.i64.wrap (i14 + j15))) (2 ^ (min (Int.toNat (1 : Int)) 64)))) ∧ (IntKind.i64.wrap (Int.fdiv (IntKind.u64.wrap (IntKind.i64.wrap (i14 + j15))) (2 ^ (min (Int.toNat (1 : Int)) 64)))) < ((List.length data0 : Nat) : Int)) <|
  (cmp4 (List.getD data0 (Int.toNat m2) default) (List.getD data0 (Int.toNat (IntKind.i64.wrap (Int.fdiv (IntKind.u64.wrap (IntKind.i64.wrap (i14 + j15))) (2 ^ (min (Int.toNat (1 : Int)) 64))))) default)).bind fun x31 =>
  cond (!(decide (x31 < (0 : Int))))
  (some (.inl (data0, IntKind.i64.wrap ((IntKind.i64.wrap (Int.fdiv (IntKind.u64.wrap (IntKind.i64.wrap (i14 + j15))) (2 ^ (min (Int.toNat (1 : Int)) 64)))) + (1 : Int)), j15)))
  (some (.inl (data0, i14, IntKind.i64.wrap (Int.fdiv (IntKind.u64.wrap (IntKind.i64.wrap (i14 + j15))) (2 ^ (min (Int.toNat (1 : Int)) 64)))))))
  (some (.inr (data0, i14)))

end Go.Abs
