/- What the law EdgeUndo stands on: the framework, the given functions as plain functions, their walks, and the plain laws; part 3. -/
import Derived.Test.YtbnnpfncgndidaaEdgeUndoZ2
set_option linter.unusedSimpArgs false
set_option linter.unusedVariables false
namespace Go.Abs
open Go
/-- rescind/rescindlaw10.EdgeUndo -/
noncomputable def s_law10_EdgeUndo (a0 : (List api_Edge)) (b1 : (List api_Edge)) : Option Bool :=
  cond ((decide ((2000 : Int) < ((List.length a0 : Nat) : Int))) || (decide ((2000 : Int) < ((List.length b1 : Nat) : Int))))
  ((s_law10_live ).bind fun x2 =>
  some x2)
  ((s_edge_Add a0 b1).bind fun x5 =>
  (s_edge_Add b1 a0).bind fun x8 =>
  (gcall (!(!decide (x5.2 = x8.2))) (s_ref10_Same x5.1 x8.1)).bind fun x11 =>
  cond ((!decide (x5.2 = x8.2)) || (!x11))
  (some false)
  (cond (!decide (x5.2 = (0 : Int)))
  ((s_law10_live ).bind fun x16 =>
  some x16)
  ((s_edge_Neg b1).bind fun x19 =>
  (s_edge_Add x5.1 x19.1).bind fun x22 =>
  (s_law10_live ).bind fun x25 =>
  (gcall ((x25 && (decide (x19.2 = (0 : Int)))) && (decide (x22.2 = (0 : Int)))) (s_ref10_Same x22.1 a0)).bind fun x28 =>
  some (((x25 && (decide (x19.2 = (0 : Int)))) && (decide (x22.2 = (0 : Int)))) && x28))))

end Go.Abs
namespace Go.Abs
open Go Go.RowKit
def ok_api_Value (x : api_Value) : Prop := in64 x.Kind ∧ in64 x.Num ∧ (fun s => s.size ≤ maxLen) x.Text ∧ True

def ok_api_Edge (x : api_Edge) : Prop := (fun l => (∀ a ∈ l, ok_api_Value a) ∧ l.length * 32 ≤ 140737488351232) x.Row ∧ in64 x.At ∧ in64 x.Net ∧ True

end Go.Abs
namespace Go.Abs
open Go Go.RowKit Go.Proofs
noncomputable def tt : TT := ⟨tyOf Try.prog, eqOk Try.prog⟩

theorem ttOk : TTok Try.prog tt := TTok.of Try.prog

theorem w_edge_runs (l0 : (List api_Edge)) (r : (List api_Edge)) (h0 : s_edge_runs l0 = some r) : Fine Try.prog 70 [(eL e_api_Edge l0)] (.fn (.func 104) [] [(.rp (eL e_api_Edge r))]) := by
  intro H0
  refine F_walk Try.func70 (by kernel_rfl) (by kernel_rfl) (by kernel_rfl) ?_
  have hO := Owns.start H0
  unfold s_edge_runs at h0
  refine C_sq ?_
  refine C_rg ttOk 2 ?_
  refine R_boxF 1 (eL e_api_Edge l0) (by kernel_rfl) (by kernel_rfl) ?_
  refine R_al ?_
  refine E_tn [(1, (.rp (eL e_api_Edge l0)))] ?_
  refine C_sq ?_
  refine C_rg ttOk 2 ?_
  refine R_al ?_
  refine E_tn [(2, (.fn (.func 104) [] [(.rp (eL e_api_Edge l0))]))] ?_
  refine C_rt ?_
  obtain rfl := Option.some.inj h0
  exact E_done (Q_ret (x := (.fn (.func 104) [] [(.rp (eL e_api_Edge l0))])) (by kernel_rfl) (SubV.refl _) ⟨rfl, hO.out⟩)

theorem w_slices_Equal_api_Row_api_Value (s10 : (List api_Value)) (s21 : (List api_Value)) (r : Bool) (h0 : s_slices_Equal_api_Row_api_Value s10 s21 = some r) : Fine Try.prog 106 [(eL e_api_Value s10), (eL e_api_Value s21)] (eBool r) := by
  intro H0
  refine F_walk Try.func106 (by kernel_rfl) (by kernel_rfl) (by kernel_rfl) ?_
  have hO := Owns.start H0
  unfold s_slices_Equal_api_Row_api_Value at h0
  refine C_sq ?_
  refine C_rg ttOk 1 ?_
  refine R_al ?_
  refine E_tn [(0, (eL e_api_Value s10)), (1, (eL e_api_Value s21))] ?_
  refine C_sq ?_
  refine C_sq ?_
  refine C_rg ttOk 5 ?_
  refine R_al ?_
  refine E_tn [(0, (eL e_api_Value s10)), (1, (eL e_api_Value s21)), (10, (eBool (!decide (((List.length s10 : Nat) : Int) = ((List.length s21 : Nat) : Int)))))] ?_
  refine C_cn (!decide (((List.length s10 : Nat) : Int) = ((List.length s21 : Nat) : Int))) (fun hc1 => ?_) (fun hc1 => ?_)
  · replace h0 := condT hc1 h0
    refine C_sq ?_
    refine C_rg ttOk 1 ?_
    refine R_al ?_
    refine E_tn [(4, (eBool false))] ?_
    refine C_rt ?_
    refine E_hk [(4, (eBool false))] ?_
    obtain rfl := Option.some.inj h0
    exact E_done (thenA_ret (Q_ret (x := (eBool false)) (by kernel_rfl) (SubV.refl _) ⟨rfl, hO.out⟩))
  replace h0 := condF hc1 h0
  refine C_sk ?_
  refine E_tn [(0, (eL e_api_Value s10)), (1, (eL e_api_Value s21))] ?_
  refine C_seqJ (by kernel_rfl) (fun T H => Has T [] ∧ Owns ⟨H0, [], []⟩ H [] ∧ slices_Equal_api_Row_api_Value_j1  = some r) ?_ ?_
  · clear hO h0
    rintro T H ⟨hT, hO, h0⟩
    refine C_has hT ?_
    clear hT
    unfold slices_Equal_api_Row_api_Value_j1 at h0
    refine C_sq ?_
    refine C_rg ttOk 1 ?_
    refine R_al ?_
    refine E_tn [(4, (eBool true))] ?_
    refine C_rt ?_
    refine E_hk [(4, (eBool true))] ?_
    obtain rfl := Option.some.inj h0
    exact E_done (Q_ret (x := (eBool true)) (by kernel_rfl) (SubV.refl _) ⟨rfl, hO.out⟩)
  refine C_sq ?_
  refine C_rg ttOk 3 ?_
  refine R_al ?_
  refine E_tn [(0, (eL e_api_Value s10)), (1, (eL e_api_Value s21)), (12, (eInt .i64 ((List.length s10 : Nat) : Int))), (13, (eInt .i64 (0 : Int)))] ?_
  refine C_bk 0 ?_
  refine C_hk [(0, (eL e_api_Value s10)), (1, (eL e_api_Value s21)), (12, (eInt .i64 ((List.length s10 : Nat) : Int))), (13, (eInt .i64 (0 : Int)))] ?_
  refine C_cut (fun T H => ∃ t12 : Int, ∃ t13 : Int, Has T [(0, (eL e_api_Value s10)), (1, (eL e_api_Value s21)), (12, (eInt .i64 t12)), (13, (eInt .i64 t13))] ∧ Owns ⟨H0, [], []⟩ H [] ∧ slices_Equal_api_Row_api_Value_h2 s10 s21 t12 t13 = some r) ?_ ⟨((List.length s10 : Nat) : Int), (0 : Int), .eq (by kernel_rfl), hO, h0⟩
  clear hO h0
  rintro T H ⟨t12, t13, hT, hO, h0⟩
  refine C_has hT ?_
  clear hT
  unfold slices_Equal_api_Row_api_Value_h2 at h0
  obtain ⟨rr0, hl0, h0⟩ := bindE h0
  refine C_loopS (by kernel_rfl) (fun (s : Int) T H => Has T [(0, (eL e_api_Value s10)), (1, (eL e_api_Value s21)), (12, (eInt .i64 t12)), (13, (eInt .i64 s))] ∧ Owns ⟨H0, [], []⟩ H []) hl0 ⟨.eq (by kernel_rfl), hO⟩ ?_
  clear hO
  rintro k0 s out1 T H ⟨hT, hO⟩ h1 ho0
  obtain ⟨t13, rfl⟩ : ∃ x, x = s := ⟨_, rfl⟩
  replace h1 : slices_Equal_api_Row_api_Value_l2 s10 s21 t12 t13 = some out1 := h1
  refine C_has (l := [(0, (eL e_api_Value s10)), (1, (eL e_api_Value s21)), (12, (eInt .i64 t12)), (13, (eInt .i64 t13))]) hT ?_
  clear hT
  unfold slices_Equal_api_Row_api_Value_l2 at h1
  refine C_sq ?_
  refine C_rg ttOk 1 ?_
  refine R_al ?_
  refine E_tn [(0, (eL e_api_Value s10)), (1, (eL e_api_Value s21)), (12, (eInt .i64 t12)), (13, (eInt .i64 t13)), (14, (eBool (decide (t13 < t12))))] ?_
  refine C_sq ?_
  refine C_cn (decide (t13 < t12)) (fun hc2 => ?_) (fun hc2 => ?_)
  · replace h1 := condT hc2 h1
    refine C_sk ?_
    refine E_tn [(0, (eL e_api_Value s10)), (1, (eL e_api_Value s21)), (12, (eInt .i64 t12)), (13, (eInt .i64 t13))] ?_
    refine C_sq ?_
    refine C_bk 1 ?_
    refine C_sq ?_
    refine C_rg ttOk 2 ?_
    refine R_al ?_
    refine E_tn [(0, (eL e_api_Value s10)), (1, (eL e_api_Value s21)), (5, (eInt .i64 t13)), (12, (eInt .i64 t12)), (13, (eInt .i64 t13))] ?_
    refine C_sq ?_
    refine A_cl (C_draw (pl := plOf [19, 23]) ttOk (by kernel_rfl) (n := 9) (by kernel_rfl) (by kernel_rfl) (by kernel_rfl) ?_)
    obtain ⟨c3, h1⟩ := asrtE h1
    obtain ⟨c4, h1⟩ := asrtE h1
    refine D_all (Ds := [0 ≤ t13 ∧ t13 < ((List.length s10 : Nat) : Int), 0 ≤ t13 ∧ t13 < ((List.length s21 : Nat) : Int)]) (by kernel_rfl) ⟨c3, c4, trivial⟩ ?_
    refine E_tn [(0, (eL e_api_Value s10)), (1, (eL e_api_Value s21)), (12, (eInt .i64 t12)), (13, (eInt .i64 t13)), (24, (eBool (!((decide (((List.getD s10 (Int.toNat t13) default).Kind) = ((List.getD s21 (Int.toNat t13) default).Kind))) && ((decide (((List.getD s10 (Int.toNat t13) default).Num) = ((List.getD s21 (Int.toNat t13) default).Num))) && ((strEq ((List.getD s10 (Int.toNat t13) default).Text) ((List.getD s21 (Int.toNat t13) default).Text)) && true))))))] ?_
    refine C_cn (!((decide (((List.getD s10 (Int.toNat t13) default).Kind) = ((List.getD s21 (Int.toNat t13) default).Kind))) && ((decide (((List.getD s10 (Int.toNat t13) default).Num) = ((List.getD s21 (Int.toNat t13) default).Num))) && ((strEq ((List.getD s10 (Int.toNat t13) default).Text) ((List.getD s21 (Int.toNat t13) default).Text)) && true)))) (fun hc5 => ?_) (fun hc5 => ?_)
    · replace h1 := condT hc5 h1
      refine C_sq ?_
      refine C_rg ttOk 1 ?_
      refine R_al ?_
      refine E_tn [(4, (eBool false))] ?_
      refine C_rt ?_
      refine E_hk [(4, (eBool false))] ?_
      obtain rfl := Option.some.inj h1
      obtain rfl : _ = rr0 := ho0
      replace h0 : some false = some r := h0
      obtain rfl := Option.some.inj h0
      exact E_done (blockA_ret (thenA_ret (thenA_ret (blockA_ret (thenA_ret (Q_ret (x := (eBool false)) (by kernel_rfl) (SubV.refl _) ⟨rfl, hO.out⟩))))))
    replace h1 := condF hc5 h1
    refine C_sk ?_
    refine E_hk [(0, (eL e_api_Value s10)), (1, (eL e_api_Value s21)), (12, (eInt .i64 t12)), (13, (eInt .i64 t13))] ?_
    refine E_done (blockA_normal (thenA_normal (?_)))
    refine C_rg ttOk 2 ?_
    refine R_al ?_
    refine E_hk [(0, (eL e_api_Value s10)), (1, (eL e_api_Value s21)), (12, (eInt .i64 t12)), (13, (eInt .i64 (IntKind.i64.wrap (t13 + (1 : Int)))))] ?_
    exact E_done (thenA_normal (⟨rfl, IntKind.i64.wrap (t13 + (1 : Int)), (Option.some.inj h1).symm, .eq (by kernel_rfl), hO⟩))
  replace h1 := condF hc2 h1
  refine C_ex 0 ?_
  refine E_hk [] ?_
  obtain rfl := Option.some.inj h1
  obtain rfl : _ = rr0 := ho0
  replace h0 : slices_Equal_api_Row_api_Value_j1  = some r := h0
  exact E_done (thenA_exit (thenA_exit (blockA_hit (thenA_normal (⟨rfl, .eq (by kernel_rfl), hO, h0⟩)))))

theorem w_row_Same (a0 : (List api_Value)) (b1 : (List api_Value)) (r : Bool) (h0 : s_row_Same a0 b1 = some r) : Fine Try.prog 77 [(eL e_api_Value a0), (eL e_api_Value b1)] (eBool r) := by
  intro H0
  refine F_walk Try.func77 (by kernel_rfl) (by kernel_rfl) (by kernel_rfl) ?_
  have hO := Owns.start H0
  unfold s_row_Same at h0
  refine C_sq ?_
  refine C_rg ttOk 1 ?_
  refine R_al ?_
  refine E_tn [(0, (eL e_api_Value a0)), (1, (eL e_api_Value b1))] ?_
  refine C_sq ?_
  refine C_rg ttOk 4 ?_
  refine R_pu 2 ?_
  obtain ⟨x1, hx2, h0⟩ := bindE h0
  refine R_cO 106 [(eL e_api_Value a0), (eL e_api_Value b1)] (eBool x1) (w_slices_Equal_api_Row_api_Value a0 b1 _ hx2) hO ?_
  intro H hO
  refine R_al ?_
  refine E_tn [(4, (eBool x1))] ?_
  refine C_rt ?_
  refine E_hk [(4, (eBool x1))] ?_
  obtain rfl := Option.some.inj h0
  exact E_done (Q_ret (x := (eBool x1)) (by kernel_rfl) (SubV.refl _) ⟨rfl, hO.out⟩)

theorem w_row_Copy (r0 : (List api_Value)) (r : (List api_Value)) (h0 : s_row_Copy r0 = some r) : Fine Try.prog 105 [(eL e_api_Value r0)] (eL e_api_Value r) := by
  intro H0
  refine F_walk Try.func105 (by kernel_rfl) (by kernel_rfl) (by kernel_rfl) ?_
  have hO := Owns.start H0
  unfold s_row_Copy at h0
  refine C_sq ?_
  refine C_rg ttOk 1 ?_
  refine R_al ?_
  refine E_tn [(0, (eL e_api_Value r0))] ?_
  refine C_sq ?_
  refine C_rg ttOk 6 ?_
  refine R_pu 2 ?_
  obtain ⟨c1, h0⟩ := asrtE h0
  refine R_makeO 3 32 ((List.length r0 : Nat) : Int) (by kernel_rfl) (by kernel_rfl) c1 hO ?_
  intro lo2 H hO
  refine R_pu 4 ?_
  obtain ⟨c4, h0⟩ := asrtE h0
  refine R_appOL (e := e_api_Value) ([] : List api_Value) r0 0 lo2 3 32 (eL e_api_Value r0) (fun lo3 => [(lo3, 3, List.map e_api_Value (([] : List api_Value) ++ r0))]) (by kernel_rfl) (by kernel_rfl) hO (by kernel_rfl) (appX_eL (fun _ => by kernel_rfl)) c4 (fun _ => by kernel_rfl) ?_
  intro lo3 H hO
  refine R_al ?_
  refine E_tn [(2, (.msl 3 lo3 0 (List.length (([] : List api_Value) ++ r0))))] ?_
  refine C_rt ?_
  refine E_hk [(2, (.msl 3 lo3 0 (List.length (([] : List api_Value) ++ r0))))] ?_
  refine E_freezeO (en := e_api_Value) (([] : List api_Value) ++ r0) 0 0 2 3 lo3 (List.length (([] : List api_Value) ++ r0)) hO (by kernel_rfl) (by kernel_rfl) (by kernel_rfl) (L' := []) (by kernel_rfl) ?_
  intro H5 hO
  obtain rfl := Option.some.inj h0
  exact E_done (Q_ret (x := (eL e_api_Value (([] : List api_Value) ++ r0))) (by kernel_rfl) (SubV.refl _) ⟨rfl, hO.out⟩)

theorem w_edge_runs_1_G {σ : Type} (I : σ → Gs → Prop) (yield0_b : Nat) (yield0 : σ → (List api_Value) → (List api_Jump) → Option (σ × Bool)) (yield0_h : ∀ st a0 a1 st2 r, yield0 st a0 a1 = some (st2, r) → FineV Try.prog (yv yield0_b) I st [(eL e_api_Value a0), (eL e_api_Jump a1)] st2 (eBool r)) (t1 : (List api_Edge)) (sg0 : σ) (r : σ) (h0 : s_edge_runs_1_G yield0 t1 sg0 = some r) : FineG Try.prog 104 I sg0 [(yv yield0_b), (.rp (eL e_api_Edge t1))] r (.tup []) := by
  intro H0 G0 hI hg
  refine F_walk Try.func104 (by kernel_rfl) (by kernel_rfl) (by kernel_rfl) ?_
  obtain ⟨G, hO, hI⟩ : ∃ G, Owns ⟨H0, List.map (fun p : Nat × AObj => p.1) G0, G⟩ H0 [] ∧ I sg0 G := ⟨G0, Owns.startG hg, hI⟩
  clear hg
  unfold s_edge_runs_1_G at h0
  refine C_sq ?_
  refine C_rg ttOk 1 ?_
  refine R_al ?_
  refine E_tn [(0, (yv yield0_b)), (1, (.rp (eL e_api_Edge t1))), (3, (eInt .i64 (0 : Int)))] ?_
  refine C_bk 0 ?_
  refine C_hk [(0, (yv yield0_b)), (1, (.rp (eL e_api_Edge t1))), (3, (eInt .i64 (0 : Int)))] ?_
  refine C_cut (fun T H => ∃ sg : σ, ∃ i3 : Int, ∃ G : Gs, Has T [(0, (yv yield0_b)), (1, (.rp (eL e_api_Edge t1))), (3, (eInt .i64 i3))] ∧ Owns ⟨H0, List.map (fun p : Nat × AObj => p.1) G0, G⟩ H [] ∧ I sg G ∧ edge_runs_1_G_h1 yield0 sg t1 i3 = some r) ?_ ⟨sg0, (0 : Int), G, .eq (by kernel_rfl), hO, hI, h0⟩
  clear hO hI h0
  rintro T H ⟨sg, i3, G, hT, hO, hI, h0⟩
  refine C_has hT ?_
  clear hT
  unfold edge_runs_1_G_h1 at h0
  obtain ⟨rr0, hl0, h0⟩ := bindE h0
  refine C_loopS (by kernel_rfl) (fun (s : σ × Int) T H => ∃ G : Gs, Has T [(0, (yv yield0_b)), (1, (.rp (eL e_api_Edge t1))), (3, (eInt .i64 s.2))] ∧ Owns ⟨H0, List.map (fun p : Nat × AObj => p.1) G0, G⟩ H [] ∧ I s.1 G) hl0 ⟨G, .eq (by kernel_rfl), hO, hI⟩ ?_
  clear hO hI
  rintro k0 s out1 T H ⟨G, hT, hO, hI⟩ h1 ho0
  obtain ⟨sg, i3⟩ := s
  replace h1 : edge_runs_1_G_l1 yield0 t1 sg i3 = some out1 := h1
  refine C_has (l := [(0, (yv yield0_b)), (1, (.rp (eL e_api_Edge t1))), (3, (eInt .i64 i3))]) hT ?_
  clear hT
  unfold edge_runs_1_G_l1 at h1
  refine C_sq ?_
  refine C_sq ?_
  refine C_rg ttOk 4 ?_
  refine R_al ?_
  refine E_tn [(0, (yv yield0_b)), (1, (.rp (eL e_api_Edge t1))), (3, (eInt .i64 i3)), (9, (eBool (decide (i3 < ((List.length t1 : Nat) : Int)))))] ?_
  refine C_cn (decide (i3 < ((List.length t1 : Nat) : Int))) (fun hc1 => ?_) (fun hc1 => ?_)
  · replace h1 := condT hc1 h1
    refine C_sk ?_
    refine E_tn [(0, (yv yield0_b)), (1, (.rp (eL e_api_Edge t1))), (3, (eInt .i64 i3))] ?_
    refine C_bk 1 ?_
    refine C_sq ?_
    refine C_rg ttOk 6 ?_
    obtain ⟨c2, h1⟩ := asrtE h1
    refine R_all (Ds := [0 ≤ i3 ∧ i3 < ((List.length t1 : Nat) : Int)]) (by kernel_rfl) ⟨c2, trivial⟩ ?_
    refine E_tn [(0, (yv yield0_b)), (1, (.rp (eL e_api_Edge t1))), (3, (eInt .i64 i3)), (4, (eL e_api_Value ((List.getD t1 (Int.toNat i3) default).Row)))] ?_
    refine C_sq ?_
    refine C_rg ttOk 2 ?_
    refine R_bsl (xs := []) (k := 2) (by kernel_rfl) (by kernel_rfl) ?_
    refine R_al ?_
    refine E_tn [(0, (yv yield0_b)), (1, (.rp (eL e_api_Edge t1))), (3, (eInt .i64 i3)), (4, (eL e_api_Value ((List.getD t1 (Int.toNat i3) default).Row))), (5, (.sl true 0 (fun _ => .bad)))] ?_
    refine C_seqJ (by kernel_rfl) (fun T H => ∃ sg : σ, ∃ i3 : Int, ∃ r4 : (List api_Value), ∃ f5 : List api_Jump, ∃ lo3 : Nat, ∃ G : Gs, Has T [(0, (yv yield0_b)), (1, (.rp (eL e_api_Edge t1))), (3, (eInt .i64 i3)), (4, (eL e_api_Value r4)), (5, (.msl 2 lo3 0 (List.length f5)))] ∧ Owns ⟨H0, List.map (fun p : Nat × AObj => p.1) G0, G⟩ H [(lo3, 2, List.map e_api_Jump f5)] ∧ I sg G ∧ edge_runs_1_G_j2 yield0 sg t1 i3 r4 f5 = some out1) ?_ ?_
    · clear hO hI h1
      rintro T H ⟨sg, i3, r4, f5, lo3, G, hT, hO, hI, h1⟩
      refine C_has hT ?_
      clear hT
      unfold edge_runs_1_G_j2 at h1
      refine C_sq ?_
      refine C_rg ttOk 6 ?_
      refine R_freezeO (e := e_api_Jump) f5 0 5 2 lo3 (List.length f5) [] (by kernel_rfl) hO (by kernel_rfl) (by kernel_rfl) (by kernel_rfl) (by kernel_rfl) ?_
      intro H hO
      refine R_pu 2 ?_
      obtain ⟨x7, hx8, h1⟩ := bindE h1
      refine R_cO 105 [(eL e_api_Value r4)] (eL e_api_Value x7) (w_row_Copy r4 _ hx8) hO ?_
      intro H hO
      refine R_pu 4 ?_
      obtain ⟨x10, hx11, h1⟩ := bindE h1
      refine R_callV (I := I) (yv yield0_b) [(eL e_api_Value x7), (eL e_api_Jump f5)] (eBool x10.2) (by kernel_rfl) (by kernel_rfl) (yield0_h _ x7 f5 x10.1 x10.2 hx11) hO hI ?_
      intro G H hO hI
      refine R_al ?_
      refine E_tn [(0, (yv yield0_b)), (1, (.rp (eL e_api_Edge t1))), (3, (eInt .i64 i3)), (50, (eBool (!x10.2)))] ?_
      refine C_cn (!x10.2) (fun hc12 => ?_) (fun hc12 => ?_)
      · replace h1 := condT hc12 h1
        refine C_rt ?_
        refine E_hk [] ?_
        obtain rfl := Option.some.inj h1
        obtain rfl : _ = rr0 := ho0
        replace h0 : some x10.1 = some r := h0
        obtain rfl := Option.some.inj h0
        exact E_done (blockA_ret (thenA_ret (blockA_ret (Q_ret (x := (.tup [])) (by kernel_rfl) (SubV.refl _) ⟨rfl, G, hI, hO.endG⟩))))
      replace h1 := condF hc12 h1
      refine C_sk ?_
      refine E_hk [(0, (yv yield0_b)), (1, (.rp (eL e_api_Edge t1))), (3, (eInt .i64 i3))] ?_
      exact E_done (blockA_normal (thenA_normal (⟨rfl, (x10.1, i3), (Option.some.inj h1).symm, G, .eq (by kernel_rfl), hO, hI⟩)))
    refine C_bk 2 ?_
    refine C_hk [(0, (yv yield0_b)), (1, (.rp (eL e_api_Edge t1))), (3, (eInt .i64 i3)), (4, (eL e_api_Value ((List.getD t1 (Int.toNat i3) default).Row))), (5, (.sl true 0 (fun _ => .bad)))] ?_
    refine C_ownO (el := (fun _ => .bad)) 4 5 2 hO (by kernel_rfl) ?_
    intro lo24 H25 hO
    refine C_cut (fun T H => ∃ sg : σ, ∃ i3 : Int, ∃ r4 : (List api_Value), ∃ f5 : List api_Jump, ∃ lo14 : Nat, ∃ G : Gs, Has T [(0, (yv yield0_b)), (1, (.rp (eL e_api_Edge t1))), (3, (eInt .i64 i3)), (4, (eL e_api_Value r4)), (5, (.msl 2 lo14 0 (List.length f5)))] ∧ Owns ⟨H0, List.map (fun p : Nat × AObj => p.1) G0, G⟩ H [(lo14, 2, List.map e_api_Jump f5)] ∧ I sg G ∧ edge_runs_1_G_h3 yield0 sg t1 i3 r4 f5 = some out1) ?_ ⟨sg, i3, (List.getD t1 (Int.toNat i3) default).Row, ([] : List api_Jump), lo24, G, .eq (by kernel_rfl), hO, hI, h1⟩
    clear hO hI h1
    rintro T H ⟨sg, i3, r4, f5, lo14, G, hT, hO, hI, h1⟩
    refine C_has hT ?_
    clear hT
    unfold edge_runs_1_G_h3 at h1
    obtain ⟨rr1, hl1, h1⟩ := bindE h1
    refine C_loopS (by kernel_rfl) (fun (s : σ × Int × List api_Jump) T H => ∃ lo14 : Nat, ∃ G : Gs, Has T [(0, (yv yield0_b)), (1, (.rp (eL e_api_Edge t1))), (3, (eInt .i64 s.2.1)), (4, (eL e_api_Value r4)), (5, (.msl 2 lo14 0 (List.length s.2.2)))] ∧ Owns ⟨H0, List.map (fun p : Nat × AObj => p.1) G0, G⟩ H [(lo14, 2, List.map e_api_Jump s.2.2)] ∧ I s.1 G) hl1 ⟨lo14, G, .eq (by kernel_rfl), hO, hI⟩ ?_
    clear hO hI
    rintro k1 s out2 T H ⟨lo14, G, hT, hO, hI⟩ h2 ho1
    obtain ⟨sg, i3, f5⟩ := s
    replace h2 : edge_runs_1_G_l3 yield0 t1 r4 sg i3 f5 = some out2 := h2
    refine C_has (l := [(0, (yv yield0_b)), (1, (.rp (eL e_api_Edge t1))), (3, (eInt .i64 i3)), (4, (eL e_api_Value r4)), (5, (.msl 2 lo14 0 (List.length f5)))]) hT ?_
    clear hT
    unfold edge_runs_1_G_l3 at h2
    refine C_sq ?_
    refine C_sq ?_
    refine C_rg ttOk 13 ?_
    obtain ⟨c15, h2⟩ := asrtE h2
    refine R_pure 11 (by kernel_rfl) (Ds := [(((decide (i3 < ((List.length t1 : Nat) : Int)))) = true → 0 ≤ i3 ∧ i3 < ((List.length t1 : Nat) : Int))]) (by kernel_rfl) ⟨c15, trivial⟩ ?_
    obtain ⟨x16, hx17, h2⟩ := bindE h2
    refine R_callO [(20, true)] 77 [(eL e_api_Value ((List.getD t1 (Int.toNat i3) default).Row)), (eL e_api_Value r4)] (eBool x16) (decide (i3 < ((List.length t1 : Nat) : Int))) (by kernel_rfl) (by kernel_rfl) (by kernel_rfl) (fun hb18 => (w_row_Same ((List.getD t1 (Int.toNat i3) default).Row) r4 _ (gcallE hx17 hb18))) hO ?_
    intro H hO
    refine R_al ?_
    refine E_tn [(0, (yv yield0_b)), (1, (.rp (eL e_api_Edge t1))), (3, (eInt .i64 i3)), (4, (eL e_api_Value r4)), (5, (.msl 2 lo14 0 (List.length f5))), (28, (eBool ((decide (i3 < ((List.length t1 : Nat) : Int))) && x16)))] ?_
    refine C_cn ((decide (i3 < ((List.length t1 : Nat) : Int))) && x16) (fun hc19 => ?_) (fun hc19 => ?_)
    · replace h2 := condT hc19 h2
      refine C_sk ?_
      refine E_tn [(0, (yv yield0_b)), (1, (.rp (eL e_api_Edge t1))), (3, (eInt .i64 i3)), (4, (eL e_api_Value r4)), (5, (.msl 2 lo14 0 (List.length f5)))] ?_
      refine C_sq ?_
      refine C_bk 3 ?_
      refine A_cl (C_draw (pl := plOf [32, 36, 37, 41]) ttOk (by kernel_rfl) (n := 15) (by kernel_rfl) (by kernel_rfl) (by kernel_rfl) ?_)
      obtain ⟨c20, h2⟩ := asrtE h2
      obtain ⟨c21, h2⟩ := asrtE h2
      refine D_pure 12 (by kernel_rfl) (Ds := [0 ≤ i3 ∧ i3 < ((List.length t1 : Nat) : Int), 0 ≤ i3 ∧ i3 < ((List.length t1 : Nat) : Int)]) (by kernel_rfl) ⟨c20, c21, trivial⟩ ?_
      refine D_bsl (xs := [(e_api_Jump (api_Jump.mk ((List.getD t1 (Int.toNat i3) default).At) ((List.getD t1 (Int.toNat i3) default).Net)))]) (k := 2) (by kernel_rfl) (by kernel_rfl) ?_
      obtain ⟨c23, h2⟩ := asrtE h2
      refine D_appOL (e := e_api_Jump) f5 ([api_Jump.mk ((List.getD t1 (Int.toNat i3) default).At) ((List.getD t1 (Int.toNat i3) default).Net)]) 0 lo14 2 16 (frozenOf [(e_api_Jump (api_Jump.mk ((List.getD t1 (Int.toNat i3) default).At) ((List.getD t1 (Int.toNat i3) default).Net)))]) (fun lo22 => [(lo22, 2, List.map e_api_Jump (f5 ++ ([api_Jump.mk ((List.getD t1 (Int.toNat i3) default).At) ((List.getD t1 (Int.toNat i3) default).Net)])))]) (by kernel_rfl) (by kernel_rfl) hO (by kernel_rfl) (by kernel_rfl) c23 (fun _ => by kernel_rfl) ?_
      intro lo22 H hO
      refine D_al ?_
      refine E_hk [(0, (yv yield0_b)), (1, (.rp (eL e_api_Edge t1))), (3, (eInt .i64 i3)), (4, (eL e_api_Value r4)), (5, (.msl 2 lo22 0 (List.length (f5 ++ ([api_Jump.mk ((List.getD t1 (Int.toNat i3) default).At) ((List.getD t1 (Int.toNat i3) default).Net)])))))] ?_
      refine E_done (blockA_normal (thenA_normal (?_)))
      refine C_rg ttOk 3 ?_
      refine R_al ?_
      refine E_hk [(0, (yv yield0_b)), (1, (.rp (eL e_api_Edge t1))), (3, (eInt .i64 (IntKind.i64.wrap (i3 + (1 : Int))))), (4, (eL e_api_Value r4)), (5, (.msl 2 lo22 0 (List.length (f5 ++ ([api_Jump.mk ((List.getD t1 (Int.toNat i3) default).At) ((List.getD t1 (Int.toNat i3) default).Net)])))))] ?_
      exact E_done (thenA_normal (⟨rfl, (sg, IntKind.i64.wrap (i3 + (1 : Int)), f5 ++ ([api_Jump.mk ((List.getD t1 (Int.toNat i3) default).At) ((List.getD t1 (Int.toNat i3) default).Net)])), (Option.some.inj h2).symm, lo22, G, .eq (by kernel_rfl), hO, hI⟩))
    replace h2 := condF hc19 h2
    refine C_ex 2 ?_
    refine E_hk [(0, (yv yield0_b)), (1, (.rp (eL e_api_Edge t1))), (3, (eInt .i64 i3)), (4, (eL e_api_Value r4)), (5, (.msl 2 lo14 0 (List.length f5)))] ?_
    obtain rfl := Option.some.inj h2
    obtain rfl : _ = rr1 := ho1
    replace h1 : edge_runs_1_G_j2 yield0 sg t1 i3 r4 f5 = some out1 := h1
    exact E_done (thenA_exit (thenA_exit (blockA_hit (thenA_normal (⟨rfl, sg, i3, r4, f5, lo14, G, .eq (by kernel_rfl), hO, hI, h1⟩)))))
  replace h1 := condF hc1 h1
  refine C_ex 0 ?_
  refine E_hk [] ?_
  obtain rfl := Option.some.inj h1
  obtain rfl : _ = rr0 := ho0
  replace h0 : some sg = some r := h0
  obtain rfl := Option.some.inj h0
  exact E_done (thenA_exit (thenA_exit (blockA_hit (Q_end (x := (.tup [])) (by kernel_rfl) (SubV.refl _) ⟨rfl, G, hI, hO.endG⟩))))

theorem w_slices_IndexFunc_api_Row_api_Value (s0 : (List api_Value)) (f1_f : Nat) (f1_a f1_c : List V) (f1 : api_Value → Option Bool) (f1_h : ∀ a0 r, f1 a0 = some r → Fine Try.prog f1_f (f1_a ++ [(e_api_Value a0)] ++ f1_c) (eBool r)) (r : Int) (h0 : s_slices_IndexFunc_api_Row_api_Value s0 f1 = some r) : Fine Try.prog 91 [(eL e_api_Value s0), (.fn (.func f1_f) f1_a f1_c)] (eInt .i64 r) := by
  intro H0
  refine F_walk Try.func91 (by kernel_rfl) (by kernel_rfl) (by kernel_rfl) ?_
  have hO := Owns.start H0
  unfold s_slices_IndexFunc_api_Row_api_Value at h0
  refine C_sq ?_
  refine C_rg ttOk 1 ?_
  refine R_al ?_
  refine E_tn [(0, (eL e_api_Value s0)), (1, (.fn (.func f1_f) f1_a f1_c))] ?_
  refine C_seqJ (by kernel_rfl) (fun T H => Has T [] ∧ Owns ⟨H0, [], []⟩ H [] ∧ slices_IndexFunc_api_Row_api_Value_j1 f1  = some r) ?_ ?_
  · clear hO h0
    rintro T H ⟨hT, hO, h0⟩
    refine C_has hT ?_
    clear hT
    unfold slices_IndexFunc_api_Row_api_Value_j1 at h0
    refine C_sq ?_
    refine C_rg ttOk 1 ?_
    refine R_al ?_
    refine E_tn [(4, (eInt .i64 (-1 : Int)))] ?_
    refine C_rt ?_
    refine E_hk [(4, (eInt .i64 (-1 : Int)))] ?_
    obtain rfl := Option.some.inj h0
    exact E_done (Q_ret (x := (eInt .i64 (-1 : Int))) (by kernel_rfl) (SubV.refl _) ⟨rfl, hO.out⟩)
  refine C_sq ?_
  refine C_rg ttOk 3 ?_
  refine R_al ?_
  refine E_tn [(0, (eL e_api_Value s0)), (1, (.fn (.func f1_f) f1_a f1_c)), (7, (eInt .i64 ((List.length s0 : Nat) : Int))), (8, (eInt .i64 (0 : Int)))] ?_
  refine C_bk 0 ?_
  refine C_hk [(0, (eL e_api_Value s0)), (1, (.fn (.func f1_f) f1_a f1_c)), (7, (eInt .i64 ((List.length s0 : Nat) : Int))), (8, (eInt .i64 (0 : Int)))] ?_
  refine C_cut (fun T H => ∃ t7 : Int, ∃ t8 : Int, Has T [(0, (eL e_api_Value s0)), (1, (.fn (.func f1_f) f1_a f1_c)), (7, (eInt .i64 t7)), (8, (eInt .i64 t8))] ∧ Owns ⟨H0, [], []⟩ H [] ∧ slices_IndexFunc_api_Row_api_Value_h2 f1 s0 t7 t8 = some r) ?_ ⟨((List.length s0 : Nat) : Int), (0 : Int), .eq (by kernel_rfl), hO, h0⟩
  clear hO h0
  rintro T H ⟨t7, t8, hT, hO, h0⟩
  refine C_has hT ?_
  clear hT
  unfold slices_IndexFunc_api_Row_api_Value_h2 at h0
  obtain ⟨rr0, hl0, h0⟩ := bindE h0
  refine C_loopS (by kernel_rfl) (fun (s : Int) T H => Has T [(0, (eL e_api_Value s0)), (1, (.fn (.func f1_f) f1_a f1_c)), (7, (eInt .i64 t7)), (8, (eInt .i64 s))] ∧ Owns ⟨H0, [], []⟩ H []) hl0 ⟨.eq (by kernel_rfl), hO⟩ ?_
  clear hO
  rintro k0 s out1 T H ⟨hT, hO⟩ h1 ho0
  obtain ⟨t8, rfl⟩ : ∃ x, x = s := ⟨_, rfl⟩
  replace h1 : slices_IndexFunc_api_Row_api_Value_l2 f1 s0 t7 t8 = some out1 := h1
  refine C_has (l := [(0, (eL e_api_Value s0)), (1, (.fn (.func f1_f) f1_a f1_c)), (7, (eInt .i64 t7)), (8, (eInt .i64 t8))]) hT ?_
  clear hT
  unfold slices_IndexFunc_api_Row_api_Value_l2 at h1
  refine C_sq ?_
  refine C_rg ttOk 1 ?_
  refine R_al ?_
  refine E_tn [(0, (eL e_api_Value s0)), (1, (.fn (.func f1_f) f1_a f1_c)), (7, (eInt .i64 t7)), (8, (eInt .i64 t8)), (9, (eBool (decide (t8 < t7))))] ?_
  refine C_sq ?_
  refine C_cn (decide (t8 < t7)) (fun hc1 => ?_) (fun hc1 => ?_)
  · replace h1 := condT hc1 h1
    refine C_sk ?_
    refine E_tn [(0, (eL e_api_Value s0)), (1, (.fn (.func f1_f) f1_a f1_c)), (7, (eInt .i64 t7)), (8, (eInt .i64 t8))] ?_
    refine C_sq ?_
    refine C_bk 1 ?_
    refine C_sq ?_
    refine C_rg ttOk 2 ?_
    refine R_al ?_
    refine E_tn [(0, (eL e_api_Value s0)), (1, (.fn (.func f1_f) f1_a f1_c)), (5, (eInt .i64 t8)), (7, (eInt .i64 t7)), (8, (eInt .i64 t8))] ?_
    refine C_sq ?_
    refine C_rg ttOk 6 ?_
    obtain ⟨c2, h1⟩ := asrtE h1
    refine R_pure 5 (by kernel_rfl) (Ds := [0 ≤ t8 ∧ t8 < ((List.length s0 : Nat) : Int)]) (by kernel_rfl) ⟨c2, trivial⟩ ?_
    obtain ⟨x3, hx4, h1⟩ := bindE h1
    refine R_cO f1_f (f1_a ++ [(e_api_Value (List.getD s0 (Int.toNat t8) default))] ++ f1_c) (eBool x3) (f1_h (List.getD s0 (Int.toNat t8) default) _ hx4) hO ?_
    intro H hO
    refine R_en ?_
    refine E_tn [(0, (eL e_api_Value s0)), (1, (.fn (.func f1_f) f1_a f1_c)), (5, (eInt .i64 t8)), (7, (eInt .i64 t7)), (8, (eInt .i64 t8)), (16, (eBool x3))] ?_
    refine C_cn (x3) (fun hc6 => ?_) (fun hc6 => ?_)
    · replace h1 := condT hc6 h1
      refine C_sq ?_
      refine C_rg ttOk 2 ?_
      refine R_al ?_
      refine E_tn [(4, (eInt .i64 t8))] ?_
      refine C_rt ?_
      refine E_hk [(4, (eInt .i64 t8))] ?_
      obtain rfl := Option.some.inj h1
      obtain rfl : _ = rr0 := ho0
      replace h0 : some t8 = some r := h0
      obtain rfl := Option.some.inj h0
      exact E_done (blockA_ret (thenA_ret (thenA_ret (blockA_ret (thenA_ret (Q_ret (x := (eInt .i64 t8)) (by kernel_rfl) (SubV.refl _) ⟨rfl, hO.out⟩))))))
    replace h1 := condF hc6 h1
    refine C_sk ?_
    refine E_hk [(0, (eL e_api_Value s0)), (1, (.fn (.func f1_f) f1_a f1_c)), (7, (eInt .i64 t7)), (8, (eInt .i64 t8))] ?_
    refine E_done (blockA_normal (thenA_normal (?_)))
    refine C_rg ttOk 2 ?_
    refine R_al ?_
    refine E_hk [(0, (eL e_api_Value s0)), (1, (.fn (.func f1_f) f1_a f1_c)), (7, (eInt .i64 t7)), (8, (eInt .i64 (IntKind.i64.wrap (t8 + (1 : Int)))))] ?_
    exact E_done (thenA_normal (⟨rfl, IntKind.i64.wrap (t8 + (1 : Int)), (Option.some.inj h1).symm, .eq (by kernel_rfl), hO⟩))
  replace h1 := condF hc1 h1
  refine C_ex 0 ?_
  refine E_hk [] ?_
  obtain rfl := Option.some.inj h1
  obtain rfl : _ = rr0 := ho0
  replace h0 : slices_IndexFunc_api_Row_api_Value_j1 f1  = some r := h0
  exact E_done (thenA_exit (thenA_exit (blockA_hit (thenA_normal (⟨rfl, .eq (by kernel_rfl), hO, h0⟩)))))

theorem w_slices_ContainsFunc_api_Row_api_Value (s0 : (List api_Value)) (f1_f : Nat) (f1_a f1_c : List V) (f1 : api_Value → Option Bool) (f1_h : ∀ a0 r, f1 a0 = some r → Fine Try.prog f1_f (f1_a ++ [(e_api_Value a0)] ++ f1_c) (eBool r)) (r : Bool) (h0 : s_slices_ContainsFunc_api_Row_api_Value s0 f1 = some r) : Fine Try.prog 87 [(eL e_api_Value s0), (.fn (.func f1_f) f1_a f1_c)] (eBool r) := by
  intro H0
  refine F_walk Try.func87 (by kernel_rfl) (by kernel_rfl) (by kernel_rfl) ?_
  have hO := Owns.start H0
  unfold s_slices_ContainsFunc_api_Row_api_Value at h0
  refine C_sq ?_
  refine C_rg ttOk 1 ?_
  refine R_al ?_
  refine E_tn [(0, (eL e_api_Value s0)), (1, (.fn (.func f1_f) f1_a f1_c))] ?_
  refine C_sq ?_
  refine C_rg ttOk 5 ?_
  refine R_pu 2 ?_
  obtain ⟨x1, hx2, h0⟩ := bindE h0
  refine R_cO 91 [(eL e_api_Value s0), (.fn (.func f1_f) f1_a f1_c)] (eInt .i64 x1) (w_slices_IndexFunc_api_Row_api_Value s0 f1_f f1_a f1_c f1 f1_h _ hx2) hO ?_
  intro H hO
  refine R_al ?_
  refine E_tn [(4, (eBool (decide ((0 : Int) ≤ x1))))] ?_
  refine C_rt ?_
  refine E_hk [(4, (eBool (decide ((0 : Int) ≤ x1))))] ?_
  obtain rfl := Option.some.inj h0
  exact E_done (Q_ret (x := (eBool (decide ((0 : Int) ≤ x1)))) (by kernel_rfl) (SubV.refl _) ⟨rfl, hO.out⟩)

theorem w_value_of (v0 : api_Value) (r : (value_thing × Bool)) (h0 : s_value_of v0 = some r) : Fine Try.prog 111 [(e_api_Value v0)] (.tup [(e_value_thing r.1), (eBool r.2)]) := by
  intro H0
  refine F_walk Try.func111 (by kernel_rfl) (by kernel_rfl) (by kernel_rfl) ?_
  have hO := Owns.start H0
  unfold s_value_of at h0
  refine C_sq ?_
  refine C_rg ttOk 3 ?_
  refine R_boxF 3 (e_api_Value v0) (by kernel_rfl) (by kernel_rfl) ?_
  refine R_al ?_
  refine E_tn [(1, (.rp (e_api_Value v0)))] ?_
  refine C_sq ?_
  refine C_bk 0 ?_
  refine C_sq ?_
  refine C_rg ttOk 9 ?_
  refine R_al ?_
  refine E_tn [(1, (.rp (e_api_Value v0))), (4, (eBool ((decide (v0.Kind = (1 : Int))) && (strEq v0.Text (⟨#[]⟩ : ByteArray)))))] ?_
  refine C_cn ((decide (v0.Kind = (1 : Int))) && (strEq v0.Text (⟨#[]⟩ : ByteArray))) (fun hc1 => ?_) (fun hc1 => ?_)
  · replace h0 := condT hc1 h0
    refine C_sq ?_
    refine C_rg ttOk 5 ?_
    refine R_al ?_
    refine E_tn [(2, (e_value_thing (value_thing.k_number v0.Num))), (3, (eBool true))] ?_
    refine C_rt ?_
    refine E_hk [(2, (e_value_thing (value_thing.k_number v0.Num))), (3, (eBool true))] ?_
    obtain rfl := Option.some.inj h0
    exact E_done (blockA_ret (thenA_ret (Q_ret (x := (.tup [(e_value_thing (value_thing.k_number v0.Num)), (eBool true)])) (by kernel_rfl) (SubV.refl _) ⟨rfl, hO.out⟩)))
  replace h0 := condF hc1 h0
  refine C_sq ?_
  refine C_rg ttOk 15 ?_
  refine R_al ?_
  refine E_tn [(1, (.rp (e_api_Value v0))), (16, (eBool (((decide (v0.Kind = (2 : Int))) && (decide (v0.Num = (0 : Int)))) && (decide (((ByteArray.size v0.Text : Nat) : Int) ≤ (64 : Int))))))] ?_
  refine C_cn (((decide (v0.Kind = (2 : Int))) && (decide (v0.Num = (0 : Int)))) && (decide (((ByteArray.size v0.Text : Nat) : Int) ≤ (64 : Int)))) (fun hc2 => ?_) (fun hc2 => ?_)
  · replace h0 := condT hc2 h0
    refine C_sq ?_
    refine C_rg ttOk 5 ?_
    refine R_al ?_
    refine E_tn [(2, (e_value_thing (value_thing.k_words v0.Text))), (3, (eBool true))] ?_
    refine C_rt ?_
    refine E_hk [(2, (e_value_thing (value_thing.k_words v0.Text))), (3, (eBool true))] ?_
    obtain rfl := Option.some.inj h0
    exact E_done (blockA_ret (thenA_ret (Q_ret (x := (.tup [(e_value_thing (value_thing.k_words v0.Text)), (eBool true)])) (by kernel_rfl) (SubV.refl _) ⟨rfl, hO.out⟩)))
  replace h0 := condF hc2 h0
  refine C_sk ?_
  refine E_hk [] ?_
  refine E_done (blockA_normal (thenA_normal (?_)))
  refine C_sq ?_
  refine C_rg ttOk 2 ?_
  refine R_al ?_
  refine E_tn [(2, (e_value_thing value_thing.none_)), (3, (eBool false))] ?_
  refine C_rt ?_
  refine E_hk [(2, (e_value_thing value_thing.none_)), (3, (eBool false))] ?_
  obtain rfl := Option.some.inj h0
  exact E_done (Q_ret (x := (.tup [(e_value_thing value_thing.none_), (eBool false)])) (by kernel_rfl) (SubV.refl _) ⟨rfl, hO.out⟩)

theorem w_value_May (v0 : api_Value) (r : Bool) (h0 : s_value_May v0 = some r) : Fine Try.prog 89 [(e_api_Value v0)] (eBool r) := by
  intro H0
  refine F_walk Try.func89 (by kernel_rfl) (by kernel_rfl) (by kernel_rfl) ?_
  have hO := Owns.start H0
  unfold s_value_May at h0
  refine C_sq ?_
  refine C_rg ttOk 2 ?_
  refine R_boxF 3 (e_api_Value v0) (by kernel_rfl) (by kernel_rfl) ?_
  refine R_al ?_
  refine E_tn [(1, (.rp (e_api_Value v0)))] ?_
  refine C_sq ?_
  refine C_rg ttOk 7 ?_
  refine R_pu 1 ?_
  obtain ⟨⟨x1_0, x1_1⟩, hx2, h0⟩ := bindE h0
  refine R_cO 111 [(e_api_Value v0)] (.tup [(e_value_thing x1_0), (eBool x1_1)]) (w_value_of v0 _ hx2) hO ?_
  intro H hO
  rcases x1_0 with _ | y4 | y5
  · replace h0 : (some x1_1) = some r := h0
    refine R_al ?_
    refine E_tn [(4, (eBool x1_1))] ?_
    refine C_sq ?_
    refine C_rg ttOk 2 ?_
    refine R_al ?_
    refine E_tn [(2, (eBool x1_1))] ?_
    refine C_rt ?_
    refine E_hk [(2, (eBool x1_1))] ?_
    obtain rfl := Option.some.inj h0
    exact E_done (Q_ret (x := (eBool x1_1)) (by kernel_rfl) (SubV.refl _) ⟨rfl, hO.out⟩)
  · replace h0 : (some x1_1) = some r := h0
    refine R_al ?_
    refine E_tn [(4, (eBool x1_1))] ?_
    refine C_sq ?_
    refine C_rg ttOk 2 ?_
    refine R_al ?_
    refine E_tn [(2, (eBool x1_1))] ?_
    refine C_rt ?_
    refine E_hk [(2, (eBool x1_1))] ?_
    obtain rfl := Option.some.inj h0
    exact E_done (Q_ret (x := (eBool x1_1)) (by kernel_rfl) (SubV.refl _) ⟨rfl, hO.out⟩)
  · replace h0 : (some x1_1) = some r := h0
    refine R_al ?_
    refine E_tn [(4, (eBool x1_1))] ?_
    refine C_sq ?_
    refine C_rg ttOk 2 ?_
    refine R_al ?_
    refine E_tn [(2, (eBool x1_1))] ?_
    refine C_rt ?_
    refine E_hk [(2, (eBool x1_1))] ?_
    obtain rfl := Option.some.inj h0
    exact E_done (Q_ret (x := (eBool x1_1)) (by kernel_rfl) (SubV.refl _) ⟨rfl, hO.out⟩)

theorem w_row_May_1 (v0 : api_Value) (r : Bool) (h0 : s_row_May_1 v0 = some r) : Fine Try.prog 88 [(e_api_Value v0)] (eBool r) := by
  intro H0
  refine F_walk Try.func88 (by kernel_rfl) (by kernel_rfl) (by kernel_rfl) ?_
  have hO := Owns.start H0
  unfold s_row_May_1 at h0
  refine C_sq ?_
  refine C_rg ttOk 2 ?_
  refine R_boxF 3 (e_api_Value v0) (by kernel_rfl) (by kernel_rfl) ?_
  refine R_al ?_
  refine E_tn [(1, (.rp (e_api_Value v0)))] ?_
  refine C_sq ?_
  refine C_rg ttOk 4 ?_
  refine R_pu 1 ?_
  obtain ⟨x1, hx2, h0⟩ := bindE h0
  refine R_cO 89 [(e_api_Value v0)] (eBool x1) (w_value_May v0 _ hx2) hO ?_
  intro H hO
  refine R_al ?_
  refine E_tn [(2, (eBool (!x1)))] ?_
  refine C_rt ?_
  refine E_hk [(2, (eBool (!x1)))] ?_
  obtain rfl := Option.some.inj h0
  exact E_done (Q_ret (x := (eBool (!x1))) (by kernel_rfl) (SubV.refl _) ⟨rfl, hO.out⟩)

theorem w_row_May (r0 : (List api_Value)) (r : Bool) (h0 : s_row_May r0 = some r) : Fine Try.prog 55 [(eL e_api_Value r0)] (eBool r) := by
  intro H0
  refine F_walk Try.func55 (by kernel_rfl) (by kernel_rfl) (by kernel_rfl) ?_
  have hO := Owns.start H0
  unfold s_row_May at h0
  refine C_sq ?_
  refine C_rg ttOk 1 ?_
  refine R_al ?_
  refine E_tn [(0, (eL e_api_Value r0))] ?_
  refine C_sq ?_
  refine C_sq ?_
  refine C_rg ttOk 3 ?_
  refine R_al ?_
  refine E_tn [(0, (eL e_api_Value r0)), (5, (eBool (decide ((8 : Int) < ((List.length r0 : Nat) : Int)))))] ?_
  refine C_cn (decide ((8 : Int) < ((List.length r0 : Nat) : Int))) (fun hc1 => ?_) (fun hc1 => ?_)
  · replace h0 := condT hc1 h0
    refine C_sq ?_
    refine C_rg ttOk 1 ?_
    refine R_al ?_
    refine E_tn [(2, (eBool false))] ?_
    refine C_rt ?_
    refine E_hk [(2, (eBool false))] ?_
    obtain rfl := Option.some.inj h0
    exact E_done (thenA_ret (Q_ret (x := (eBool false)) (by kernel_rfl) (SubV.refl _) ⟨rfl, hO.out⟩))
  replace h0 := condF hc1 h0
  refine C_sk ?_
  refine E_tn [(0, (eL e_api_Value r0))] ?_
  refine C_sq ?_
  refine C_rg ttOk 4 ?_
  refine R_pu 1 ?_
  obtain ⟨x2, hx3, h0⟩ := bindE h0
  refine R_cO 87 [(eL e_api_Value r0), (.fn (.func 88) [] [])] (eBool x2) (w_slices_ContainsFunc_api_Row_api_Value r0 88 [] [] (fun y0 => s_row_May_1 y0) (fun y0 r h => w_row_May_1 y0 r h) _ hx3) hO ?_
  intro H hO
  refine R_al ?_
  refine E_tn [(2, (eBool (!x2)))] ?_
  refine C_rt ?_
  refine E_hk [(2, (eBool (!x2)))] ?_
  obtain rfl := Option.some.inj h0
  exact E_done (Q_ret (x := (eBool (!x2))) (by kernel_rfl) (SubV.refl _) ⟨rfl, hO.out⟩)

theorem w_row_Compare_1 (t0 : (List api_Value)) (r : (Int × (List api_Value))) (h0 : s_row_Compare_1 t0 = some r) : FineO Try.prog 92 [(.rp (eL e_api_Value t0))] (fun lo => (.fn (.func 93) [] [(.lp lo 0 0), (.rp (eL e_api_Value r.2))])) 1 [(eInt .i64 r.1)] := by
  intro H0
  refine F_walk Try.func92 (by kernel_rfl) (by kernel_rfl) (by kernel_rfl) ?_
  have hO := Owns.start H0
  unfold s_row_Compare_1 at h0
  refine C_sq ?_
  refine C_rg ttOk 1 ?_
  refine R_al ?_
  refine E_tn [(0, (.rp (eL e_api_Value t0)))] ?_
  refine C_sq ?_
  refine C_rg ttOk 2 ?_
  refine R_allocO 1 (eInt .i64 0) (by kernel_rfl) (by kernel_rfl) hO ?_
  intro lo1 H hO
  refine R_storeOL 0 lo1 1 0 (eInt .i64 0) (eInt .i64 (-1 : Int)) [(eInt .i64 0)] [(lo1, 1, [(eInt .i64 (-1 : Int))])] (by kernel_rfl) (by kernel_rfl) (by kernel_rfl) hO (by kernel_rfl) rfl (by kernel_rfl) ?_
  intro H hO
  refine R_en ?_
  refine E_tn [(0, (.rp (eL e_api_Value t0))), (2, (.lp lo1 0 0))] ?_
  refine C_sq ?_
  refine C_rg ttOk 2 ?_
  refine R_al ?_
  refine E_tn [(1, (.fn (.func 93) [] [(.lp lo1 0 0), (.rp (eL e_api_Value t0))]))] ?_
  refine C_rt ?_
  obtain rfl := Option.some.inj h0
  exact E_done (Q_ret (x := (.fn (.func 93) [] [(.lp lo1 0 0), (.rp (eL e_api_Value t0))])) (by kernel_rfl) (SubV.refl _) ⟨lo1, rfl, hO⟩)

theorem w_slices_IndexFunc_api_Row_api_Value_F {σ : Type} (I : σ → Gs → Prop) (s0 : (List api_Value)) (f1_v : V) (f1 : σ → api_Value → Option (σ × Bool)) (f1_h : ∀ st a0 st2 r, f1 st a0 = some (st2, r) → FineV Try.prog f1_v I st [(e_api_Value a0)] st2 (eBool r)) (sg0 : σ) (r : (σ × Int)) (h0 : s_slices_IndexFunc_api_Row_api_Value_F s0 f1 sg0 = some r) : FineG Try.prog 91 I sg0 [(eL e_api_Value s0), f1_v] r.1 (eInt .i64 r.2) := by
  intro H0 G0 hI hg
  refine F_walk Try.func91 (by kernel_rfl) (by kernel_rfl) (by kernel_rfl) ?_
  obtain ⟨G, hO, hI⟩ : ∃ G, Owns ⟨H0, List.map (fun p : Nat × AObj => p.1) G0, G⟩ H0 [] ∧ I sg0 G := ⟨G0, Owns.startG hg, hI⟩
  clear hg
  unfold s_slices_IndexFunc_api_Row_api_Value_F at h0
  refine C_sq ?_
  refine C_rg ttOk 1 ?_
  refine R_al ?_
  refine E_tn [(0, (eL e_api_Value s0)), (1, f1_v)] ?_
  refine C_seqJ (by kernel_rfl) (fun T H => ∃ sg : σ, ∃ G : Gs, Has T [] ∧ Owns ⟨H0, List.map (fun p : Nat × AObj => p.1) G0, G⟩ H [] ∧ I sg G ∧ slices_IndexFunc_api_Row_api_Value_F_j1 f1 sg = some r) ?_ ?_
  · clear hO hI h0
    rintro T H ⟨sg, G, hT, hO, hI, h0⟩
    refine C_has hT ?_
    clear hT
    unfold slices_IndexFunc_api_Row_api_Value_F_j1 at h0
    refine C_sq ?_
    refine C_rg ttOk 1 ?_
    refine R_al ?_
    refine E_tn [(4, (eInt .i64 (-1 : Int)))] ?_
    refine C_rt ?_
    refine E_hk [(4, (eInt .i64 (-1 : Int)))] ?_
    obtain rfl := Option.some.inj h0
    exact E_done (Q_ret (x := (eInt .i64 (-1 : Int))) (by kernel_rfl) (SubV.refl _) ⟨rfl, G, hI, hO.endG⟩)
  refine C_sq ?_
  refine C_rg ttOk 3 ?_
  refine R_al ?_
  refine E_tn [(0, (eL e_api_Value s0)), (1, f1_v), (7, (eInt .i64 ((List.length s0 : Nat) : Int))), (8, (eInt .i64 (0 : Int)))] ?_
  refine C_bk 0 ?_
  refine C_hk [(0, (eL e_api_Value s0)), (1, f1_v), (7, (eInt .i64 ((List.length s0 : Nat) : Int))), (8, (eInt .i64 (0 : Int)))] ?_
  refine C_cut (fun T H => ∃ sg : σ, ∃ t7 : Int, ∃ t8 : Int, ∃ G : Gs, Has T [(0, (eL e_api_Value s0)), (1, f1_v), (7, (eInt .i64 t7)), (8, (eInt .i64 t8))] ∧ Owns ⟨H0, List.map (fun p : Nat × AObj => p.1) G0, G⟩ H [] ∧ I sg G ∧ slices_IndexFunc_api_Row_api_Value_F_h2 f1 sg s0 t7 t8 = some r) ?_ ⟨sg0, ((List.length s0 : Nat) : Int), (0 : Int), G, .eq (by kernel_rfl), hO, hI, h0⟩
  clear hO hI h0
  rintro T H ⟨sg, t7, t8, G, hT, hO, hI, h0⟩
  refine C_has hT ?_
  clear hT
  unfold slices_IndexFunc_api_Row_api_Value_F_h2 at h0
  obtain ⟨rr0, hl0, h0⟩ := bindE h0
  refine C_loopS (by kernel_rfl) (fun (s : σ × Int) T H => ∃ G : Gs, Has T [(0, (eL e_api_Value s0)), (1, f1_v), (7, (eInt .i64 t7)), (8, (eInt .i64 s.2))] ∧ Owns ⟨H0, List.map (fun p : Nat × AObj => p.1) G0, G⟩ H [] ∧ I s.1 G) hl0 ⟨G, .eq (by kernel_rfl), hO, hI⟩ ?_
  clear hO hI
  rintro k0 s out1 T H ⟨G, hT, hO, hI⟩ h1 ho0
  obtain ⟨sg, t8⟩ := s
  replace h1 : slices_IndexFunc_api_Row_api_Value_F_l2 f1 s0 t7 sg t8 = some out1 := h1
  refine C_has (l := [(0, (eL e_api_Value s0)), (1, f1_v), (7, (eInt .i64 t7)), (8, (eInt .i64 t8))]) hT ?_
  clear hT
  unfold slices_IndexFunc_api_Row_api_Value_F_l2 at h1
  refine C_sq ?_
  refine C_rg ttOk 1 ?_
  refine R_al ?_
  refine E_tn [(0, (eL e_api_Value s0)), (1, f1_v), (7, (eInt .i64 t7)), (8, (eInt .i64 t8)), (9, (eBool (decide (t8 < t7))))] ?_
  refine C_sq ?_
  refine C_cn (decide (t8 < t7)) (fun hc1 => ?_) (fun hc1 => ?_)
  · replace h1 := condT hc1 h1
    refine C_sk ?_
    refine E_tn [(0, (eL e_api_Value s0)), (1, f1_v), (7, (eInt .i64 t7)), (8, (eInt .i64 t8))] ?_
    refine C_sq ?_
    refine C_bk 1 ?_
    refine C_sq ?_
    refine C_rg ttOk 2 ?_
    refine R_al ?_
    refine E_tn [(0, (eL e_api_Value s0)), (1, f1_v), (5, (eInt .i64 t8)), (7, (eInt .i64 t7)), (8, (eInt .i64 t8))] ?_
    refine C_sq ?_
    refine C_rg ttOk 6 ?_
    obtain ⟨c2, h1⟩ := asrtE h1
    refine R_pure 5 (by kernel_rfl) (Ds := [0 ≤ t8 ∧ t8 < ((List.length s0 : Nat) : Int)]) (by kernel_rfl) ⟨c2, trivial⟩ ?_
    obtain ⟨x3, hx4, h1⟩ := bindE h1
    refine R_callV (I := I) f1_v [(e_api_Value (List.getD s0 (Int.toNat t8) default))] (eBool x3.2) (by kernel_rfl) (by kernel_rfl) (f1_h _ (List.getD s0 (Int.toNat t8) default) x3.1 x3.2 hx4) hO hI ?_
    intro G H hO hI
    refine R_en ?_
    refine E_tn [(0, (eL e_api_Value s0)), (1, f1_v), (5, (eInt .i64 t8)), (7, (eInt .i64 t7)), (8, (eInt .i64 t8)), (16, (eBool x3.2))] ?_
    refine C_cn (x3.2) (fun hc5 => ?_) (fun hc5 => ?_)
    · replace h1 := condT hc5 h1
      refine C_sq ?_
      refine C_rg ttOk 2 ?_
      refine R_al ?_
      refine E_tn [(4, (eInt .i64 t8))] ?_
      refine C_rt ?_
      refine E_hk [(4, (eInt .i64 t8))] ?_
      obtain rfl := Option.some.inj h1
      obtain rfl : _ = rr0 := ho0
      replace h0 : some (x3.1, t8) = some r := h0
      obtain rfl := Option.some.inj h0
      exact E_done (blockA_ret (thenA_ret (thenA_ret (blockA_ret (thenA_ret (Q_ret (x := (eInt .i64 t8)) (by kernel_rfl) (SubV.refl _) ⟨rfl, G, hI, hO.endG⟩))))))
    replace h1 := condF hc5 h1
    refine C_sk ?_
    refine E_hk [(0, (eL e_api_Value s0)), (1, f1_v), (7, (eInt .i64 t7)), (8, (eInt .i64 t8))] ?_
    refine E_done (blockA_normal (thenA_normal (?_)))
    refine C_rg ttOk 2 ?_
    refine R_al ?_
    refine E_hk [(0, (eL e_api_Value s0)), (1, f1_v), (7, (eInt .i64 t7)), (8, (eInt .i64 (IntKind.i64.wrap (t8 + (1 : Int)))))] ?_
    exact E_done (thenA_normal (⟨rfl, (x3.1, IntKind.i64.wrap (t8 + (1 : Int))), (Option.some.inj h1).symm, G, .eq (by kernel_rfl), hO, hI⟩))
  replace h1 := condF hc1 h1
  refine C_ex 0 ?_
  refine E_hk [] ?_
  obtain rfl := Option.some.inj h1
  obtain rfl : _ = rr0 := ho0
  replace h0 : slices_IndexFunc_api_Row_api_Value_F_j1 f1 sg = some r := h0
  exact E_done (thenA_exit (thenA_exit (blockA_hit (thenA_normal (⟨rfl, sg, G, .eq (by kernel_rfl), hO, hI, h0⟩)))))

theorem w_row_Compare_1_1 (v0 : api_Value) (lo1p : Nat) (t1 : Int) (t2 : (List api_Value)) (r : (Bool × Int)) (h0 : s_row_Compare_1_1 v0 t1 t2 = some r) : FineI Try.prog 93 lo1p 1 [(eInt .i64 t1)] [(eInt .i64 r.2)] [(e_api_Value v0), (.lp lo1p 0 0), (.rp (eL e_api_Value t2))] (eBool r.1) := by
  intro H0 hl0
  refine F_walk Try.func93 (by kernel_rfl) (by kernel_rfl) (by kernel_rfl) ?_
  have hO := Owns.start1 hl0
  clear hl0
  unfold s_row_Compare_1_1 at h0
  refine C_sq ?_
  refine C_rg ttOk 2 ?_
  refine R_boxF 3 (e_api_Value v0) (by kernel_rfl) (by kernel_rfl) ?_
  refine R_al ?_
  refine E_tn [(1, (.lp lo1p 0 0)), (2, (.rp (eL e_api_Value t2))), (3, (.rp (e_api_Value v0)))] ?_
  refine C_sq ?_
  refine C_rg ttOk 3 ?_
  refine R_loadO [] 0 lo1p 1 0 (eInt .i64 t1) (eInt .i64 t1) [(eInt .i64 t1)] (by kernel_rfl) (by kernel_rfl) hO (by kernel_rfl) true (by kernel_rfl) (fun _ => rfl) ?_
  refine R_pu 2 ?_
  refine R_storeOL 0 lo1p 1 0 (eInt .i64 t1) (eInt .i64 (IntKind.i64.wrap (t1 + (1 : Int)))) [(eInt .i64 t1)] [(lo1p, 1, [(eInt .i64 (IntKind.i64.wrap (t1 + (1 : Int))))])] (by kernel_rfl) (by kernel_rfl) (by kernel_rfl) hO (by kernel_rfl) rfl (by kernel_rfl) ?_
  intro H hO
  refine R_en ?_
  refine E_tn [(1, (.lp lo1p 0 0)), (2, (.rp (eL e_api_Value t2))), (3, (.rp (e_api_Value v0)))] ?_
  refine C_sq ?_
  refine A_cl (C_draw (pl := plOf [7, 8, 11]) ttOk (by kernel_rfl) (n := 7) (by kernel_rfl) (by kernel_rfl) (by kernel_rfl) ?_)
  refine D_pu 2 ?_
  refine D_loadO 0 lo1p 1 0 (eInt .i64 (IntKind.i64.wrap (t1 + (1 : Int)))) (eInt .i64 (IntKind.i64.wrap (t1 + (1 : Int)))) [(eInt .i64 (IntKind.i64.wrap (t1 + (1 : Int))))] (by kernel_rfl) (by kernel_rfl) (by kernel_rfl) (by kernel_rfl) hO (by kernel_rfl) rfl ?_
  obtain ⟨c1, h0⟩ := asrtE h0
  refine D_all (Ds := [0 ≤ (IntKind.i64.wrap (t1 + (1 : Int))) ∧ (IntKind.i64.wrap (t1 + (1 : Int))) < ((List.length t2 : Nat) : Int)]) (by kernel_rfl) ⟨c1, trivial⟩ ?_
  refine E_tn [(1, (.lp lo1p 0 0)), (4, (eBool (!((decide (v0.Kind = ((List.getD t2 (Int.toNat (IntKind.i64.wrap (t1 + (1 : Int)))) default).Kind))) && ((decide (v0.Num = ((List.getD t2 (Int.toNat (IntKind.i64.wrap (t1 + (1 : Int)))) default).Num))) && ((strEq v0.Text ((List.getD t2 (Int.toNat (IntKind.i64.wrap (t1 + (1 : Int)))) default).Text)) && true))))))] ?_
  refine C_rt ?_
  refine E_hk [(1, (.lp lo1p 0 0)), (4, (eBool (!((decide (v0.Kind = ((List.getD t2 (Int.toNat (IntKind.i64.wrap (t1 + (1 : Int)))) default).Kind))) && ((decide (v0.Num = ((List.getD t2 (Int.toNat (IntKind.i64.wrap (t1 + (1 : Int)))) default).Num))) && ((strEq v0.Text ((List.getD t2 (Int.toNat (IntKind.i64.wrap (t1 + (1 : Int)))) default).Text)) && true))))))] ?_
  obtain rfl := Option.some.inj h0
  exact E_done (Q_ret (x := (eBool (!((decide (v0.Kind = ((List.getD t2 (Int.toNat (IntKind.i64.wrap (t1 + (1 : Int)))) default).Kind))) && ((decide (v0.Num = ((List.getD t2 (Int.toNat (IntKind.i64.wrap (t1 + (1 : Int)))) default).Num))) && ((strEq v0.Text ((List.getD t2 (Int.toNat (IntKind.i64.wrap (t1 + (1 : Int)))) default).Text)) && true)))))) (by kernel_rfl) (SubV.refl _) ⟨rfl, hO.ext, hO.at 0 (by kernel_rfl), rfl⟩)

theorem w_cmp_isNaN_int (x0 : Int) (r : Bool) (h0 : s_cmp_isNaN_int x0 = some r) : Fine Try.prog 95 [(eInt .i64 x0)] (eBool r) := by
  intro H0
  refine F_walk Try.func95 (by kernel_rfl) (by kernel_rfl) (by kernel_rfl) ?_
  have hO := Owns.start H0
  unfold s_cmp_isNaN_int at h0
  refine C_sq ?_
  refine C_rg ttOk 1 ?_
  refine R_al ?_
  refine E_tn [(0, (eInt .i64 x0))] ?_
  refine C_sq ?_
  refine C_rg ttOk 4 ?_
  refine R_al ?_
  refine E_tn [(2, (eBool (!decide (x0 = x0))))] ?_
  refine C_rt ?_
  refine E_hk [(2, (eBool (!decide (x0 = x0))))] ?_
  obtain rfl := Option.some.inj h0
  exact E_done (Q_ret (x := (eBool (!decide (x0 = x0)))) (by kernel_rfl) (SubV.refl _) ⟨rfl, hO.out⟩)

theorem w_cmp_Compare_int (x0 : Int) (y1 : Int) (r : Int) (h0 : s_cmp_Compare_int x0 y1 = some r) : Fine Try.prog 62 [(eInt .i64 x0), (eInt .i64 y1)] (eInt .i64 r) := by
  intro H0
  refine F_walk Try.func62 (by kernel_rfl) (by kernel_rfl) (by kernel_rfl) ?_
  have hO := Owns.start H0
  unfold s_cmp_Compare_int at h0
  refine C_sq ?_
  refine C_rg ttOk 1 ?_
  refine R_al ?_
  refine E_tn [(0, (eInt .i64 x0)), (1, (eInt .i64 y1))] ?_
  refine C_sq ?_
  refine C_rg ttOk 3 ?_
  refine R_pu 1 ?_
  obtain ⟨x1, hx2, h0⟩ := bindE h0
  refine R_cO 95 [(eInt .i64 x0)] (eBool x1) (w_cmp_isNaN_int x0 _ hx2) hO ?_
  intro H hO
  refine R_al ?_
  refine E_tn [(0, (eInt .i64 x0)), (1, (eInt .i64 y1)), (5, (eBool x1))] ?_
  refine C_sq ?_
  refine C_rg ttOk 3 ?_
  refine R_pu 1 ?_
  obtain ⟨x4, hx5, h0⟩ := bindE h0
  refine R_cO 95 [(eInt .i64 y1)] (eBool x4) (w_cmp_isNaN_int y1 _ hx5) hO ?_
  intro H hO
  refine R_al ?_
  refine E_tn [(0, (eInt .i64 x0)), (1, (eInt .i64 y1)), (5, (eBool x1)), (6, (eBool x4))] ?_
  refine C_sq ?_
  refine C_sq ?_
  refine C_rg ttOk 1 ?_
  refine R_al ?_
  refine E_tn [(0, (eInt .i64 x0)), (1, (eInt .i64 y1)), (6, (eBool x4)), (11, (eBool x1))] ?_
  refine C_cn (x1) (fun hc7 => ?_) (fun hc7 => ?_)
  · replace h0 := condT hc7 h0
    refine C_sq ?_
    refine C_sq ?_
    refine C_rg ttOk 1 ?_
    refine R_al ?_
    refine E_tn [(12, (eBool x4))] ?_
    refine C_cn (x4) (fun hc8 => ?_) (fun hc8 => ?_)
    · replace h0 := condT hc8 h0
      refine C_sq ?_
      refine C_rg ttOk 1 ?_
      refine R_al ?_
      refine E_tn [(4, (eInt .i64 (0 : Int)))] ?_
      refine C_rt ?_
      refine E_hk [(4, (eInt .i64 (0 : Int)))] ?_
      obtain rfl := Option.some.inj h0
      exact E_done (thenA_ret (thenA_ret (Q_ret (x := (eInt .i64 (0 : Int))) (by kernel_rfl) (SubV.refl _) ⟨rfl, hO.out⟩)))
    replace h0 := condF hc8 h0
    refine C_sk ?_
    refine E_tn [] ?_
    refine C_sq ?_
    refine C_rg ttOk 1 ?_
    refine R_al ?_
    refine E_tn [(4, (eInt .i64 (-1 : Int)))] ?_
    refine C_rt ?_
    refine E_hk [(4, (eInt .i64 (-1 : Int)))] ?_
    obtain rfl := Option.some.inj h0
    exact E_done (thenA_ret (Q_ret (x := (eInt .i64 (-1 : Int))) (by kernel_rfl) (SubV.refl _) ⟨rfl, hO.out⟩))
  replace h0 := condF hc7 h0
  refine C_sk ?_
  refine E_tn [(0, (eInt .i64 x0)), (1, (eInt .i64 y1)), (6, (eBool x4))] ?_
  refine C_sq ?_
  refine C_sq ?_
  refine C_rg ttOk 1 ?_
  refine R_al ?_
  refine E_tn [(0, (eInt .i64 x0)), (1, (eInt .i64 y1)), (13, (eBool x4))] ?_
  refine C_cn (x4) (fun hc9 => ?_) (fun hc9 => ?_)
  · replace h0 := condT hc9 h0
    refine C_sq ?_
    refine C_rg ttOk 1 ?_
    refine R_al ?_
    refine E_tn [(4, (eInt .i64 (1 : Int)))] ?_
    refine C_rt ?_
    refine E_hk [(4, (eInt .i64 (1 : Int)))] ?_
    obtain rfl := Option.some.inj h0
    exact E_done (thenA_ret (Q_ret (x := (eInt .i64 (1 : Int))) (by kernel_rfl) (SubV.refl _) ⟨rfl, hO.out⟩))
  replace h0 := condF hc9 h0
  refine C_sk ?_
  refine E_tn [(0, (eInt .i64 x0)), (1, (eInt .i64 y1))] ?_
  refine C_sq ?_
  refine C_sq ?_
  refine C_rg ttOk 3 ?_
  refine R_al ?_
  refine E_tn [(0, (eInt .i64 x0)), (1, (eInt .i64 y1)), (16, (eBool (decide (x0 < y1))))] ?_
  refine C_cn (decide (x0 < y1)) (fun hc10 => ?_) (fun hc10 => ?_)
  · replace h0 := condT hc10 h0
    refine C_sq ?_
    refine C_rg ttOk 1 ?_
    refine R_al ?_
    refine E_tn [(4, (eInt .i64 (-1 : Int)))] ?_
    refine C_rt ?_
    refine E_hk [(4, (eInt .i64 (-1 : Int)))] ?_
    obtain rfl := Option.some.inj h0
    exact E_done (thenA_ret (Q_ret (x := (eInt .i64 (-1 : Int))) (by kernel_rfl) (SubV.refl _) ⟨rfl, hO.out⟩))
  replace h0 := condF hc10 h0
  refine C_sk ?_
  refine E_tn [(0, (eInt .i64 x0)), (1, (eInt .i64 y1))] ?_
  refine C_sq ?_
  refine C_sq ?_
  refine C_rg ttOk 3 ?_
  refine R_al ?_
  refine E_tn [(19, (eBool (decide (y1 < x0))))] ?_
  refine C_cn (decide (y1 < x0)) (fun hc11 => ?_) (fun hc11 => ?_)
  · replace h0 := condT hc11 h0
    refine C_sq ?_
    refine C_rg ttOk 1 ?_
    refine R_al ?_
    refine E_tn [(4, (eInt .i64 (1 : Int)))] ?_
    refine C_rt ?_
    refine E_hk [(4, (eInt .i64 (1 : Int)))] ?_
    obtain rfl := Option.some.inj h0
    exact E_done (thenA_ret (Q_ret (x := (eInt .i64 (1 : Int))) (by kernel_rfl) (SubV.refl _) ⟨rfl, hO.out⟩))
  replace h0 := condF hc11 h0
  refine C_sk ?_
  refine E_tn [] ?_
  refine C_sq ?_
  refine C_rg ttOk 1 ?_
  refine R_al ?_
  refine E_tn [(4, (eInt .i64 (0 : Int)))] ?_
  refine C_rt ?_
  refine E_hk [(4, (eInt .i64 (0 : Int)))] ?_
  obtain rfl := Option.some.inj h0
  exact E_done (Q_ret (x := (eInt .i64 (0 : Int))) (by kernel_rfl) (SubV.refl _) ⟨rfl, hO.out⟩)

theorem w_cmp_isNaN_value_number (x0 : Int) (r : Bool) (h0 : s_cmp_isNaN_value_number x0 = some r) : Fine Try.prog 119 [(eInt .i64 x0)] (eBool r) := by
  intro H0
  refine F_walk Try.func119 (by kernel_rfl) (by kernel_rfl) (by kernel_rfl) ?_
  have hO := Owns.start H0
  unfold s_cmp_isNaN_value_number at h0
  refine C_sq ?_
  refine C_rg ttOk 1 ?_
  refine R_al ?_
  refine E_tn [(0, (eInt .i64 x0))] ?_
  refine C_sq ?_
  refine C_rg ttOk 4 ?_
  refine R_al ?_
  refine E_tn [(2, (eBool (!decide (x0 = x0))))] ?_
  refine C_rt ?_
  refine E_hk [(2, (eBool (!decide (x0 = x0))))] ?_
  obtain rfl := Option.some.inj h0
  exact E_done (Q_ret (x := (eBool (!decide (x0 = x0)))) (by kernel_rfl) (SubV.refl _) ⟨rfl, hO.out⟩)

theorem w_cmp_Compare_value_number (x0 : Int) (y1 : Int) (r : Int) (h0 : s_cmp_Compare_value_number x0 y1 = some r) : Fine Try.prog 114 [(eInt .i64 x0), (eInt .i64 y1)] (eInt .i64 r) := by
  intro H0
  refine F_walk Try.func114 (by kernel_rfl) (by kernel_rfl) (by kernel_rfl) ?_
  have hO := Owns.start H0
  unfold s_cmp_Compare_value_number at h0
  refine C_sq ?_
  refine C_rg ttOk 1 ?_
  refine R_al ?_
  refine E_tn [(0, (eInt .i64 x0)), (1, (eInt .i64 y1))] ?_
  refine C_sq ?_
  refine C_rg ttOk 3 ?_
  refine R_pu 1 ?_
  obtain ⟨x1, hx2, h0⟩ := bindE h0
  refine R_cO 119 [(eInt .i64 x0)] (eBool x1) (w_cmp_isNaN_value_number x0 _ hx2) hO ?_
  intro H hO
  refine R_al ?_
  refine E_tn [(0, (eInt .i64 x0)), (1, (eInt .i64 y1)), (5, (eBool x1))] ?_
  refine C_sq ?_
  refine C_rg ttOk 3 ?_
  refine R_pu 1 ?_
  obtain ⟨x4, hx5, h0⟩ := bindE h0
  refine R_cO 119 [(eInt .i64 y1)] (eBool x4) (w_cmp_isNaN_value_number y1 _ hx5) hO ?_
  intro H hO
  refine R_al ?_
  refine E_tn [(0, (eInt .i64 x0)), (1, (eInt .i64 y1)), (5, (eBool x1)), (6, (eBool x4))] ?_
  refine C_sq ?_
  refine C_sq ?_
  refine C_rg ttOk 1 ?_
  refine R_al ?_
  refine E_tn [(0, (eInt .i64 x0)), (1, (eInt .i64 y1)), (6, (eBool x4)), (11, (eBool x1))] ?_
  refine C_cn (x1) (fun hc7 => ?_) (fun hc7 => ?_)
  · replace h0 := condT hc7 h0
    refine C_sq ?_
    refine C_sq ?_
    refine C_rg ttOk 1 ?_
    refine R_al ?_
    refine E_tn [(12, (eBool x4))] ?_
    refine C_cn (x4) (fun hc8 => ?_) (fun hc8 => ?_)
    · replace h0 := condT hc8 h0
      refine C_sq ?_
      refine C_rg ttOk 1 ?_
      refine R_al ?_
      refine E_tn [(4, (eInt .i64 (0 : Int)))] ?_
      refine C_rt ?_
      refine E_hk [(4, (eInt .i64 (0 : Int)))] ?_
      obtain rfl := Option.some.inj h0
      exact E_done (thenA_ret (thenA_ret (Q_ret (x := (eInt .i64 (0 : Int))) (by kernel_rfl) (SubV.refl _) ⟨rfl, hO.out⟩)))
    replace h0 := condF hc8 h0
    refine C_sk ?_
    refine E_tn [] ?_
    refine C_sq ?_
    refine C_rg ttOk 1 ?_
    refine R_al ?_
    refine E_tn [(4, (eInt .i64 (-1 : Int)))] ?_
    refine C_rt ?_
    refine E_hk [(4, (eInt .i64 (-1 : Int)))] ?_
    obtain rfl := Option.some.inj h0
    exact E_done (thenA_ret (Q_ret (x := (eInt .i64 (-1 : Int))) (by kernel_rfl) (SubV.refl _) ⟨rfl, hO.out⟩))
  replace h0 := condF hc7 h0
  refine C_sk ?_
  refine E_tn [(0, (eInt .i64 x0)), (1, (eInt .i64 y1)), (6, (eBool x4))] ?_
  refine C_sq ?_
  refine C_sq ?_
  refine C_rg ttOk 1 ?_
  refine R_al ?_
  refine E_tn [(0, (eInt .i64 x0)), (1, (eInt .i64 y1)), (13, (eBool x4))] ?_
  refine C_cn (x4) (fun hc9 => ?_) (fun hc9 => ?_)
  · replace h0 := condT hc9 h0
    refine C_sq ?_
    refine C_rg ttOk 1 ?_
    refine R_al ?_
    refine E_tn [(4, (eInt .i64 (1 : Int)))] ?_
    refine C_rt ?_
    refine E_hk [(4, (eInt .i64 (1 : Int)))] ?_
    obtain rfl := Option.some.inj h0
    exact E_done (thenA_ret (Q_ret (x := (eInt .i64 (1 : Int))) (by kernel_rfl) (SubV.refl _) ⟨rfl, hO.out⟩))
  replace h0 := condF hc9 h0
  refine C_sk ?_
  refine E_tn [(0, (eInt .i64 x0)), (1, (eInt .i64 y1))] ?_
  refine C_sq ?_
  refine C_sq ?_
  refine C_rg ttOk 3 ?_
  refine R_al ?_
  refine E_tn [(0, (eInt .i64 x0)), (1, (eInt .i64 y1)), (16, (eBool (decide (x0 < y1))))] ?_
  refine C_cn (decide (x0 < y1)) (fun hc10 => ?_) (fun hc10 => ?_)
  · replace h0 := condT hc10 h0
    refine C_sq ?_
    refine C_rg ttOk 1 ?_
    refine R_al ?_
    refine E_tn [(4, (eInt .i64 (-1 : Int)))] ?_
    refine C_rt ?_
    refine E_hk [(4, (eInt .i64 (-1 : Int)))] ?_
    obtain rfl := Option.some.inj h0
    exact E_done (thenA_ret (Q_ret (x := (eInt .i64 (-1 : Int))) (by kernel_rfl) (SubV.refl _) ⟨rfl, hO.out⟩))
  replace h0 := condF hc10 h0
  refine C_sk ?_
  refine E_tn [(0, (eInt .i64 x0)), (1, (eInt .i64 y1))] ?_
  refine C_sq ?_
  refine C_sq ?_
  refine C_rg ttOk 3 ?_
  refine R_al ?_
  refine E_tn [(19, (eBool (decide (y1 < x0))))] ?_
  refine C_cn (decide (y1 < x0)) (fun hc11 => ?_) (fun hc11 => ?_)
  · replace h0 := condT hc11 h0
    refine C_sq ?_
    refine C_rg ttOk 1 ?_
    refine R_al ?_
    refine E_tn [(4, (eInt .i64 (1 : Int)))] ?_
    refine C_rt ?_
    refine E_hk [(4, (eInt .i64 (1 : Int)))] ?_
    obtain rfl := Option.some.inj h0
    exact E_done (thenA_ret (Q_ret (x := (eInt .i64 (1 : Int))) (by kernel_rfl) (SubV.refl _) ⟨rfl, hO.out⟩))
  replace h0 := condF hc11 h0
  refine C_sk ?_
  refine E_tn [] ?_
  refine C_sq ?_
  refine C_rg ttOk 1 ?_
  refine R_al ?_
  refine E_tn [(4, (eInt .i64 (0 : Int)))] ?_
  refine C_rt ?_
  refine E_hk [(4, (eInt .i64 (0 : Int)))] ?_
  obtain rfl := Option.some.inj h0
  exact E_done (Q_ret (x := (eInt .i64 (0 : Int))) (by kernel_rfl) (SubV.refl _) ⟨rfl, hO.out⟩)

theorem w_internal_bytealg_CompareString (a0 : ByteArray) (b1 : ByteArray) (r : Int) (h0 : s_internal_bytealg_CompareString a0 b1 = some r) : Fine Try.prog 120 [(eStr a0), (eStr b1)] (eInt .i64 r) := by
  intro H0
  refine F_walk Try.func120 (by kernel_rfl) (by kernel_rfl) (by kernel_rfl) ?_
  have hO := Owns.start H0
  unfold s_internal_bytealg_CompareString at h0
  refine C_sq ?_
  refine C_rg ttOk 1 ?_
  refine R_al ?_
  refine E_tn [(0, (eStr a0)), (1, (eStr b1))] ?_
  refine C_sq ?_
  refine C_rg ttOk 4 ?_
  refine R_pu 2 ?_
  refine R_callX 124 [(eStr a0), (eStr b1)] (eInt .i64 (cmpB a0 b1)) (by kernel_rfl) (by kernel_rfl) (fine_cmp Try.func124 (by kernel_rfl) (by kernel_rfl) (by kernel_rfl) (by kernel_rfl) a0 b1) hO ?_
  intro H hO
  refine R_al ?_
  refine E_tn [(4, (eInt .i64 (cmpB a0 b1)))] ?_
  refine C_rt ?_
  refine E_hk [(4, (eInt .i64 (cmpB a0 b1)))] ?_
  obtain rfl := Option.some.inj h0
  exact E_done (Q_ret (x := (eInt .i64 (cmpB a0 b1))) (by kernel_rfl) (SubV.refl _) ⟨rfl, hO.out⟩)

theorem w_strings_Compare (a0 : ByteArray) (b1 : ByteArray) (r : Int) (h0 : s_strings_Compare a0 b1 = some r) : Fine Try.prog 115 [(eStr a0), (eStr b1)] (eInt .i64 r) := by
  intro H0
  refine F_walk Try.func115 (by kernel_rfl) (by kernel_rfl) (by kernel_rfl) ?_
  have hO := Owns.start H0
  unfold s_strings_Compare at h0
  refine C_sq ?_
  refine C_rg ttOk 1 ?_
  refine R_al ?_
  refine E_tn [(0, (eStr a0)), (1, (eStr b1))] ?_
  refine C_sq ?_
  refine C_rg ttOk 4 ?_
  refine R_pu 2 ?_
  obtain ⟨x1, hx2, h0⟩ := bindE h0
  refine R_cO 120 [(eStr a0), (eStr b1)] (eInt .i64 x1) (w_internal_bytealg_CompareString a0 b1 _ hx2) hO ?_
  intro H hO
  refine R_al ?_
  refine E_tn [(4, (eInt .i64 x1))] ?_
  refine C_rt ?_
  refine E_hk [(4, (eInt .i64 x1))] ?_
  obtain rfl := Option.some.inj h0
  exact E_done (Q_ret (x := (eInt .i64 x1)) (by kernel_rfl) (SubV.refl _) ⟨rfl, hO.out⟩)

theorem w_value_Compare (a0 : api_Value) (b1 : api_Value) (r : Int) (h0 : s_value_Compare a0 b1 = some r) : Fine Try.prog 94 [(e_api_Value a0), (e_api_Value b1)] (eInt .i64 r) := by
  intro H0
  refine F_walk Try.func94 (by kernel_rfl) (by kernel_rfl) (by kernel_rfl) ?_
  have hO := Owns.start H0
  unfold s_value_Compare at h0
  refine C_sq ?_
  refine C_rg ttOk 3 ?_
  refine R_boxF 3 (e_api_Value a0) (by kernel_rfl) (by kernel_rfl) ?_
  refine R_boxF 3 (e_api_Value b1) (by kernel_rfl) (by kernel_rfl) ?_
  refine R_al ?_
  refine E_tn [(2, (.rp (e_api_Value a0))), (3, (.rp (e_api_Value b1)))] ?_
  refine C_sq ?_
  refine C_rg ttOk 7 ?_
  refine R_pu 1 ?_
  obtain ⟨⟨x1_0, x1_1⟩, hx2, h0⟩ := bindE h0
  refine R_cO 111 [(e_api_Value a0)] (.tup [(e_value_thing x1_0), (eBool x1_1)]) (w_value_of a0 _ hx2) hO ?_
  intro H hO
  rcases x1_0 with _ | y4 | y5
  · replace h0 : ((s_value_of b1).bind fun (x6_0, x6_1) => match x6_0 with | .none_ => (cond ((!x1_1) || (!x6_1)) (some (0 : Int)) (none)) | .k_number y9 => (cond ((!x1_1) || (!x6_1)) (some (0 : Int)) (some (1 : Int))) | .k_words y10 => (cond ((!x1_1) || (!x6_1)) (some (0 : Int)) (none))) = some r := h0
    refine R_al ?_
    refine E_tn [(3, (.rp (e_api_Value b1))), (5, (e_value_thing value_thing.none_)), (6, (eBool x1_1))] ?_
    refine C_sq ?_
    refine C_rg ttOk 7 ?_
    refine R_pu 1 ?_
    obtain ⟨⟨x6_0, x6_1⟩, hx7, h0⟩ := bindE h0
    refine R_cO 111 [(e_api_Value b1)] (.tup [(e_value_thing x6_0), (eBool x6_1)]) (w_value_of b1 _ hx7) hO ?_
    intro H hO
    rcases x6_0 with _ | y9 | y10
    · replace h0 : (cond ((!x1_1) || (!x6_1)) (some (0 : Int)) (none)) = some r := h0
      refine R_al ?_
      refine E_tn [(5, (e_value_thing value_thing.none_)), (6, (eBool x1_1)), (7, (e_value_thing value_thing.none_)), (8, (eBool x6_1))] ?_
      refine C_sq ?_
      refine C_sq ?_
      refine C_rg ttOk 6 ?_
      refine R_al ?_
      refine E_tn [(5, (e_value_thing value_thing.none_)), (7, (e_value_thing value_thing.none_)), (28, (eBool ((!x1_1) || (!x6_1))))] ?_
      refine C_cn ((!x1_1) || (!x6_1)) (fun hc11 => ?_) (fun hc11 => ?_)
      · replace h0 := condT hc11 h0
        refine C_sq ?_
        refine C_rg ttOk 1 ?_
        refine R_al ?_
        refine E_tn [(4, (eInt .i64 (0 : Int)))] ?_
        refine C_rt ?_
        refine E_hk [(4, (eInt .i64 (0 : Int)))] ?_
        obtain rfl := Option.some.inj h0
        exact E_done (thenA_ret (Q_ret (x := (eInt .i64 (0 : Int))) (by kernel_rfl) (SubV.refl _) ⟨rfl, hO.out⟩))
      replace h0 := condF hc11 h0
      refine C_sk ?_
      refine E_tn [(5, (e_value_thing value_thing.none_)), (7, (e_value_thing value_thing.none_))] ?_
      refine C_sq ?_
      refine C_rg ttOk 7 ?_
      refine R_al ?_
      refine E_tn [(5, (e_value_thing value_thing.none_)), (7, (e_value_thing value_thing.none_)), (9, (eInt .i64 0)), (10, (eBool false))] ?_
      refine C_sq ?_
      refine C_rg ttOk 7 ?_
      refine R_al ?_
      refine E_tn [(5, (e_value_thing value_thing.none_)), (7, (e_value_thing value_thing.none_)), (9, (eInt .i64 0)), (10, (eBool false)), (11, (eInt .i64 0)), (12, (eBool false))] ?_
      refine C_sq ?_
      refine C_bk 0 ?_
      refine C_sq ?_
      refine C_rg ttOk 5 ?_
      refine R_al ?_
      refine E_tn [(5, (e_value_thing value_thing.none_)), (7, (e_value_thing value_thing.none_)), (9, (eInt .i64 0)), (10, (eBool false)), (11, (eInt .i64 0)), (12, (eBool false)), (39, (eBool false))] ?_
      refine C_cn (false) (fun hc12 => ?_) (fun hc12 => ?_)
      · cases hc12
      · refine C_sq ?_
        refine C_rg ttOk 2 ?_
        refine R_al ?_
        refine E_tn [(5, (e_value_thing value_thing.none_)), (7, (e_value_thing value_thing.none_)), (12, (eBool false)), (47, (eBool false))] ?_
        refine C_cn (false) (fun hc13 => ?_) (fun hc13 => ?_)
        · cases hc13
        · refine C_sq ?_
          refine C_rg ttOk 2 ?_
          refine R_al ?_
          refine E_tn [(5, (e_value_thing value_thing.none_)), (7, (e_value_thing value_thing.none_)), (49, (eBool false))] ?_
          refine C_cn (false) (fun hc14 => ?_) (fun hc14 => ?_)
          · cases hc14
          · refine C_sk ?_
            refine E_hk [(5, (e_value_thing value_thing.none_)), (7, (e_value_thing value_thing.none_))] ?_
            refine E_done (blockA_normal (thenA_normal (?_)))
            refine C_sq ?_
            refine A_cl (C_draw (pl := plOf []) ttOk (by kernel_rfl) (n := 6) (by kernel_rfl) (by kernel_rfl) (by kernel_rfl) ?_)
            cases h0
    · replace h0 : (cond ((!x1_1) || (!x6_1)) (some (0 : Int)) (some (1 : Int))) = some r := h0
      refine R_al ?_
      refine E_tn [(5, (e_value_thing value_thing.none_)), (6, (eBool x1_1)), (7, (e_value_thing (value_thing.k_number y9))), (8, (eBool x6_1))] ?_
      refine C_sq ?_
      refine C_sq ?_
      refine C_rg ttOk 6 ?_
      refine R_al ?_
      refine E_tn [(5, (e_value_thing value_thing.none_)), (7, (e_value_thing (value_thing.k_number y9))), (28, (eBool ((!x1_1) || (!x6_1))))] ?_
      refine C_cn ((!x1_1) || (!x6_1)) (fun hc15 => ?_) (fun hc15 => ?_)
      · replace h0 := condT hc15 h0
        refine C_sq ?_
        refine C_rg ttOk 1 ?_
        refine R_al ?_
        refine E_tn [(4, (eInt .i64 (0 : Int)))] ?_
        refine C_rt ?_
        refine E_hk [(4, (eInt .i64 (0 : Int)))] ?_
        obtain rfl := Option.some.inj h0
        exact E_done (thenA_ret (Q_ret (x := (eInt .i64 (0 : Int))) (by kernel_rfl) (SubV.refl _) ⟨rfl, hO.out⟩))
      replace h0 := condF hc15 h0
      refine C_sk ?_
      refine E_tn [(5, (e_value_thing value_thing.none_)), (7, (e_value_thing (value_thing.k_number y9)))] ?_
      refine C_sq ?_
      refine C_rg ttOk 7 ?_
      refine R_al ?_
      refine E_tn [(5, (e_value_thing value_thing.none_)), (7, (e_value_thing (value_thing.k_number y9))), (9, (eInt .i64 0)), (10, (eBool false))] ?_
      refine C_sq ?_
      refine C_rg ttOk 7 ?_
      refine R_al ?_
      refine E_tn [(5, (e_value_thing value_thing.none_)), (7, (e_value_thing (value_thing.k_number y9))), (9, (eInt .i64 0)), (10, (eBool false)), (11, (eInt .i64 y9)), (12, (eBool true))] ?_
      refine C_sq ?_
      refine C_bk 0 ?_
      refine C_sq ?_
      refine C_rg ttOk 5 ?_
      refine R_al ?_
      refine E_tn [(5, (e_value_thing value_thing.none_)), (7, (e_value_thing (value_thing.k_number y9))), (9, (eInt .i64 0)), (10, (eBool false)), (11, (eInt .i64 y9)), (12, (eBool true)), (39, (eBool false))] ?_
      refine C_cn (false) (fun hc16 => ?_) (fun hc16 => ?_)
      · cases hc16
      · refine C_sq ?_
        refine C_rg ttOk 2 ?_
        refine R_al ?_
        refine E_tn [(5, (e_value_thing value_thing.none_)), (7, (e_value_thing (value_thing.k_number y9))), (12, (eBool true)), (47, (eBool false))] ?_
        refine C_cn (false) (fun hc17 => ?_) (fun hc17 => ?_)
        · cases hc17
        · refine C_sq ?_
          refine C_rg ttOk 2 ?_
          refine R_al ?_
          refine E_tn [(5, (e_value_thing value_thing.none_)), (7, (e_value_thing (value_thing.k_number y9))), (49, (eBool true))] ?_
          refine C_cn (true) (fun hc18 => ?_) (fun hc18 => ?_)
          · refine C_sq ?_
            refine C_rg ttOk 1 ?_
            refine R_al ?_
            refine E_tn [(4, (eInt .i64 (1 : Int)))] ?_
            refine C_rt ?_
            refine E_hk [(4, (eInt .i64 (1 : Int)))] ?_
            obtain rfl := Option.some.inj h0
            exact E_done (blockA_ret (thenA_ret (Q_ret (x := (eInt .i64 (1 : Int))) (by kernel_rfl) (SubV.refl _) ⟨rfl, hO.out⟩)))
          · cases hc18
    · replace h0 : (cond ((!x1_1) || (!x6_1)) (some (0 : Int)) (none)) = some r := h0
      refine R_al ?_
      refine E_tn [(5, (e_value_thing value_thing.none_)), (6, (eBool x1_1)), (7, (e_value_thing (value_thing.k_words y10))), (8, (eBool x6_1))] ?_
      refine C_sq ?_
      refine C_sq ?_
      refine C_rg ttOk 6 ?_
      refine R_al ?_
      refine E_tn [(5, (e_value_thing value_thing.none_)), (7, (e_value_thing (value_thing.k_words y10))), (28, (eBool ((!x1_1) || (!x6_1))))] ?_
      refine C_cn ((!x1_1) || (!x6_1)) (fun hc19 => ?_) (fun hc19 => ?_)
      · replace h0 := condT hc19 h0
        refine C_sq ?_
        refine C_rg ttOk 1 ?_
        refine R_al ?_
        refine E_tn [(4, (eInt .i64 (0 : Int)))] ?_
        refine C_rt ?_
        refine E_hk [(4, (eInt .i64 (0 : Int)))] ?_
        obtain rfl := Option.some.inj h0
        exact E_done (thenA_ret (Q_ret (x := (eInt .i64 (0 : Int))) (by kernel_rfl) (SubV.refl _) ⟨rfl, hO.out⟩))
      replace h0 := condF hc19 h0
      refine C_sk ?_
      refine E_tn [(5, (e_value_thing value_thing.none_)), (7, (e_value_thing (value_thing.k_words y10)))] ?_
      refine C_sq ?_
      refine C_rg ttOk 7 ?_
      refine R_al ?_
      refine E_tn [(5, (e_value_thing value_thing.none_)), (7, (e_value_thing (value_thing.k_words y10))), (9, (eInt .i64 0)), (10, (eBool false))] ?_
      refine C_sq ?_
      refine C_rg ttOk 7 ?_
      refine R_al ?_
      refine E_tn [(5, (e_value_thing value_thing.none_)), (7, (e_value_thing (value_thing.k_words y10))), (9, (eInt .i64 0)), (10, (eBool false)), (11, (eInt .i64 0)), (12, (eBool false))] ?_
      refine C_sq ?_
      refine C_bk 0 ?_
      refine C_sq ?_
      refine C_rg ttOk 5 ?_
      refine R_al ?_
      refine E_tn [(5, (e_value_thing value_thing.none_)), (7, (e_value_thing (value_thing.k_words y10))), (9, (eInt .i64 0)), (10, (eBool false)), (11, (eInt .i64 0)), (12, (eBool false)), (39, (eBool false))] ?_
      refine C_cn (false) (fun hc20 => ?_) (fun hc20 => ?_)
      · cases hc20
      · refine C_sq ?_
        refine C_rg ttOk 2 ?_
        refine R_al ?_
        refine E_tn [(5, (e_value_thing value_thing.none_)), (7, (e_value_thing (value_thing.k_words y10))), (12, (eBool false)), (47, (eBool false))] ?_
        refine C_cn (false) (fun hc21 => ?_) (fun hc21 => ?_)
        · cases hc21
        · refine C_sq ?_
          refine C_rg ttOk 2 ?_
          refine R_al ?_
          refine E_tn [(5, (e_value_thing value_thing.none_)), (7, (e_value_thing (value_thing.k_words y10))), (49, (eBool false))] ?_
          refine C_cn (false) (fun hc22 => ?_) (fun hc22 => ?_)
          · cases hc22
          · refine C_sk ?_
            refine E_hk [(5, (e_value_thing value_thing.none_)), (7, (e_value_thing (value_thing.k_words y10)))] ?_
            refine E_done (blockA_normal (thenA_normal (?_)))
            refine C_sq ?_
            refine A_cl (C_draw (pl := plOf []) ttOk (by kernel_rfl) (n := 6) (by kernel_rfl) (by kernel_rfl) (by kernel_rfl) ?_)
            cases h0
  · replace h0 : ((s_value_of b1).bind fun (x23_0, x23_1) => match x23_0 with | .none_ => (cond ((!x1_1) || (!x23_1)) (some (0 : Int)) (some (-1 : Int))) | .k_number y26 => (cond ((!x1_1) || (!x23_1)) (some (0 : Int)) ((s_cmp_Compare_value_number y4 y26).bind fun x33 => some x33)) | .k_words y27 => (cond ((!x1_1) || (!x23_1)) (some (0 : Int)) (some (-1 : Int)))) = some r := h0
    refine R_al ?_
    refine E_tn [(3, (.rp (e_api_Value b1))), (5, (e_value_thing (value_thing.k_number y4))), (6, (eBool x1_1))] ?_
    refine C_sq ?_
    refine C_rg ttOk 7 ?_
    refine R_pu 1 ?_
    obtain ⟨⟨x23_0, x23_1⟩, hx24, h0⟩ := bindE h0
    refine R_cO 111 [(e_api_Value b1)] (.tup [(e_value_thing x23_0), (eBool x23_1)]) (w_value_of b1 _ hx24) hO ?_
    intro H hO
    rcases x23_0 with _ | y26 | y27
    · replace h0 : (cond ((!x1_1) || (!x23_1)) (some (0 : Int)) (some (-1 : Int))) = some r := h0
      refine R_al ?_
      refine E_tn [(5, (e_value_thing (value_thing.k_number y4))), (6, (eBool x1_1)), (7, (e_value_thing value_thing.none_)), (8, (eBool x23_1))] ?_
      refine C_sq ?_
      refine C_sq ?_
      refine C_rg ttOk 6 ?_
      refine R_al ?_
      refine E_tn [(5, (e_value_thing (value_thing.k_number y4))), (7, (e_value_thing value_thing.none_)), (28, (eBool ((!x1_1) || (!x23_1))))] ?_
      refine C_cn ((!x1_1) || (!x23_1)) (fun hc28 => ?_) (fun hc28 => ?_)
      · replace h0 := condT hc28 h0
        refine C_sq ?_
        refine C_rg ttOk 1 ?_
        refine R_al ?_
        refine E_tn [(4, (eInt .i64 (0 : Int)))] ?_
        refine C_rt ?_
        refine E_hk [(4, (eInt .i64 (0 : Int)))] ?_
        obtain rfl := Option.some.inj h0
        exact E_done (thenA_ret (Q_ret (x := (eInt .i64 (0 : Int))) (by kernel_rfl) (SubV.refl _) ⟨rfl, hO.out⟩))
      replace h0 := condF hc28 h0
      refine C_sk ?_
      refine E_tn [(5, (e_value_thing (value_thing.k_number y4))), (7, (e_value_thing value_thing.none_))] ?_
      refine C_sq ?_
      refine C_rg ttOk 7 ?_
      refine R_al ?_
      refine E_tn [(5, (e_value_thing (value_thing.k_number y4))), (7, (e_value_thing value_thing.none_)), (9, (eInt .i64 y4)), (10, (eBool true))] ?_
      refine C_sq ?_
      refine C_rg ttOk 7 ?_
      refine R_al ?_
      refine E_tn [(5, (e_value_thing (value_thing.k_number y4))), (7, (e_value_thing value_thing.none_)), (9, (eInt .i64 y4)), (10, (eBool true)), (11, (eInt .i64 0)), (12, (eBool false))] ?_
      refine C_sq ?_
      refine C_bk 0 ?_
      refine C_sq ?_
      refine C_rg ttOk 5 ?_
      refine R_al ?_
      refine E_tn [(5, (e_value_thing (value_thing.k_number y4))), (7, (e_value_thing value_thing.none_)), (9, (eInt .i64 y4)), (10, (eBool true)), (11, (eInt .i64 0)), (12, (eBool false)), (39, (eBool false))] ?_
      refine C_cn (false) (fun hc29 => ?_) (fun hc29 => ?_)
      · cases hc29
      · refine C_sq ?_
        refine C_rg ttOk 2 ?_
        refine R_al ?_
        refine E_tn [(5, (e_value_thing (value_thing.k_number y4))), (7, (e_value_thing value_thing.none_)), (12, (eBool false)), (47, (eBool true))] ?_
        refine C_cn (true) (fun hc30 => ?_) (fun hc30 => ?_)
        · refine C_sq ?_
          refine C_rg ttOk 1 ?_
          refine R_al ?_
          refine E_tn [(4, (eInt .i64 (-1 : Int)))] ?_
          refine C_rt ?_
          refine E_hk [(4, (eInt .i64 (-1 : Int)))] ?_
          obtain rfl := Option.some.inj h0
          exact E_done (blockA_ret (thenA_ret (Q_ret (x := (eInt .i64 (-1 : Int))) (by kernel_rfl) (SubV.refl _) ⟨rfl, hO.out⟩)))
        · cases hc30
    · replace h0 : (cond ((!x1_1) || (!x23_1)) (some (0 : Int)) ((s_cmp_Compare_value_number y4 y26).bind fun x33 => some x33)) = some r := h0
      refine R_al ?_
      refine E_tn [(5, (e_value_thing (value_thing.k_number y4))), (6, (eBool x1_1)), (7, (e_value_thing (value_thing.k_number y26))), (8, (eBool x23_1))] ?_
      refine C_sq ?_
      refine C_sq ?_
      refine C_rg ttOk 6 ?_
      refine R_al ?_
      refine E_tn [(5, (e_value_thing (value_thing.k_number y4))), (7, (e_value_thing (value_thing.k_number y26))), (28, (eBool ((!x1_1) || (!x23_1))))] ?_
      refine C_cn ((!x1_1) || (!x23_1)) (fun hc31 => ?_) (fun hc31 => ?_)
      · replace h0 := condT hc31 h0
        refine C_sq ?_
        refine C_rg ttOk 1 ?_
        refine R_al ?_
        refine E_tn [(4, (eInt .i64 (0 : Int)))] ?_
        refine C_rt ?_
        refine E_hk [(4, (eInt .i64 (0 : Int)))] ?_
        obtain rfl := Option.some.inj h0
        exact E_done (thenA_ret (Q_ret (x := (eInt .i64 (0 : Int))) (by kernel_rfl) (SubV.refl _) ⟨rfl, hO.out⟩))
      replace h0 := condF hc31 h0
      refine C_sk ?_
      refine E_tn [(5, (e_value_thing (value_thing.k_number y4))), (7, (e_value_thing (value_thing.k_number y26)))] ?_
      refine C_sq ?_
      refine C_rg ttOk 7 ?_
      refine R_al ?_
      refine E_tn [(5, (e_value_thing (value_thing.k_number y4))), (7, (e_value_thing (value_thing.k_number y26))), (9, (eInt .i64 y4)), (10, (eBool true))] ?_
      refine C_sq ?_
      refine C_rg ttOk 7 ?_
      refine R_al ?_
      refine E_tn [(5, (e_value_thing (value_thing.k_number y4))), (7, (e_value_thing (value_thing.k_number y26))), (9, (eInt .i64 y4)), (10, (eBool true)), (11, (eInt .i64 y26)), (12, (eBool true))] ?_
      refine C_sq ?_
      refine C_bk 0 ?_
      refine C_sq ?_
      refine C_rg ttOk 5 ?_
      refine R_al ?_
      refine E_tn [(5, (e_value_thing (value_thing.k_number y4))), (7, (e_value_thing (value_thing.k_number y26))), (9, (eInt .i64 y4)), (10, (eBool true)), (11, (eInt .i64 y26)), (12, (eBool true)), (39, (eBool true))] ?_
      refine C_cn (true) (fun hc32 => ?_) (fun hc32 => ?_)
      · refine C_sq ?_
        refine C_rg ttOk 4 ?_
        refine R_pu 2 ?_
        obtain ⟨x33, hx34, h0⟩ := bindE h0
        refine R_cO 114 [(eInt .i64 y4), (eInt .i64 y26)] (eInt .i64 x33) (w_cmp_Compare_value_number y4 y26 _ hx34) hO ?_
        intro H hO
        refine R_al ?_
        refine E_tn [(4, (eInt .i64 x33))] ?_
        refine C_rt ?_
        refine E_hk [(4, (eInt .i64 x33))] ?_
        obtain rfl := Option.some.inj h0
        exact E_done (blockA_ret (thenA_ret (Q_ret (x := (eInt .i64 x33)) (by kernel_rfl) (SubV.refl _) ⟨rfl, hO.out⟩)))
      · cases hc32
    · replace h0 : (cond ((!x1_1) || (!x23_1)) (some (0 : Int)) (some (-1 : Int))) = some r := h0
      refine R_al ?_
      refine E_tn [(5, (e_value_thing (value_thing.k_number y4))), (6, (eBool x1_1)), (7, (e_value_thing (value_thing.k_words y27))), (8, (eBool x23_1))] ?_
      refine C_sq ?_
      refine C_sq ?_
      refine C_rg ttOk 6 ?_
      refine R_al ?_
      refine E_tn [(5, (e_value_thing (value_thing.k_number y4))), (7, (e_value_thing (value_thing.k_words y27))), (28, (eBool ((!x1_1) || (!x23_1))))] ?_
      refine C_cn ((!x1_1) || (!x23_1)) (fun hc36 => ?_) (fun hc36 => ?_)
      · replace h0 := condT hc36 h0
        refine C_sq ?_
        refine C_rg ttOk 1 ?_
        refine R_al ?_
        refine E_tn [(4, (eInt .i64 (0 : Int)))] ?_
        refine C_rt ?_
        refine E_hk [(4, (eInt .i64 (0 : Int)))] ?_
        obtain rfl := Option.some.inj h0
        exact E_done (thenA_ret (Q_ret (x := (eInt .i64 (0 : Int))) (by kernel_rfl) (SubV.refl _) ⟨rfl, hO.out⟩))
      replace h0 := condF hc36 h0
      refine C_sk ?_
      refine E_tn [(5, (e_value_thing (value_thing.k_number y4))), (7, (e_value_thing (value_thing.k_words y27)))] ?_
      refine C_sq ?_
      refine C_rg ttOk 7 ?_
      refine R_al ?_
      refine E_tn [(5, (e_value_thing (value_thing.k_number y4))), (7, (e_value_thing (value_thing.k_words y27))), (9, (eInt .i64 y4)), (10, (eBool true))] ?_
      refine C_sq ?_
      refine C_rg ttOk 7 ?_
      refine R_al ?_
      refine E_tn [(5, (e_value_thing (value_thing.k_number y4))), (7, (e_value_thing (value_thing.k_words y27))), (9, (eInt .i64 y4)), (10, (eBool true)), (11, (eInt .i64 0)), (12, (eBool false))] ?_
      refine C_sq ?_
      refine C_bk 0 ?_
      refine C_sq ?_
      refine C_rg ttOk 5 ?_
      refine R_al ?_
      refine E_tn [(5, (e_value_thing (value_thing.k_number y4))), (7, (e_value_thing (value_thing.k_words y27))), (9, (eInt .i64 y4)), (10, (eBool true)), (11, (eInt .i64 0)), (12, (eBool false)), (39, (eBool false))] ?_
      refine C_cn (false) (fun hc37 => ?_) (fun hc37 => ?_)
      · cases hc37
      · refine C_sq ?_
        refine C_rg ttOk 2 ?_
        refine R_al ?_
        refine E_tn [(5, (e_value_thing (value_thing.k_number y4))), (7, (e_value_thing (value_thing.k_words y27))), (12, (eBool false)), (47, (eBool true))] ?_
        refine C_cn (true) (fun hc38 => ?_) (fun hc38 => ?_)
        · refine C_sq ?_
          refine C_rg ttOk 1 ?_
          refine R_al ?_
          refine E_tn [(4, (eInt .i64 (-1 : Int)))] ?_
          refine C_rt ?_
          refine E_hk [(4, (eInt .i64 (-1 : Int)))] ?_
          obtain rfl := Option.some.inj h0
          exact E_done (blockA_ret (thenA_ret (Q_ret (x := (eInt .i64 (-1 : Int))) (by kernel_rfl) (SubV.refl _) ⟨rfl, hO.out⟩)))
        · cases hc38
  · replace h0 : ((s_value_of b1).bind fun (x39_0, x39_1) => match x39_0 with | .none_ => (cond ((!x1_1) || (!x39_1)) (some (0 : Int)) (none)) | .k_number y42 => (cond ((!x1_1) || (!x39_1)) (some (0 : Int)) (some (1 : Int))) | .k_words y43 => (cond ((!x1_1) || (!x39_1)) (some (0 : Int)) ((s_strings_Compare y5 y43).bind fun x56 => some x56))) = some r := h0
    refine R_al ?_
    refine E_tn [(3, (.rp (e_api_Value b1))), (5, (e_value_thing (value_thing.k_words y5))), (6, (eBool x1_1))] ?_
    refine C_sq ?_
    refine C_rg ttOk 7 ?_
    refine R_pu 1 ?_
    obtain ⟨⟨x39_0, x39_1⟩, hx40, h0⟩ := bindE h0
    refine R_cO 111 [(e_api_Value b1)] (.tup [(e_value_thing x39_0), (eBool x39_1)]) (w_value_of b1 _ hx40) hO ?_
    intro H hO
    rcases x39_0 with _ | y42 | y43
    · replace h0 : (cond ((!x1_1) || (!x39_1)) (some (0 : Int)) (none)) = some r := h0
      refine R_al ?_
      refine E_tn [(5, (e_value_thing (value_thing.k_words y5))), (6, (eBool x1_1)), (7, (e_value_thing value_thing.none_)), (8, (eBool x39_1))] ?_
      refine C_sq ?_
      refine C_sq ?_
      refine C_rg ttOk 6 ?_
      refine R_al ?_
      refine E_tn [(5, (e_value_thing (value_thing.k_words y5))), (7, (e_value_thing value_thing.none_)), (28, (eBool ((!x1_1) || (!x39_1))))] ?_
      refine C_cn ((!x1_1) || (!x39_1)) (fun hc44 => ?_) (fun hc44 => ?_)
      · replace h0 := condT hc44 h0
        refine C_sq ?_
        refine C_rg ttOk 1 ?_
        refine R_al ?_
        refine E_tn [(4, (eInt .i64 (0 : Int)))] ?_
        refine C_rt ?_
        refine E_hk [(4, (eInt .i64 (0 : Int)))] ?_
        obtain rfl := Option.some.inj h0
        exact E_done (thenA_ret (Q_ret (x := (eInt .i64 (0 : Int))) (by kernel_rfl) (SubV.refl _) ⟨rfl, hO.out⟩))
      replace h0 := condF hc44 h0
      refine C_sk ?_
      refine E_tn [(5, (e_value_thing (value_thing.k_words y5))), (7, (e_value_thing value_thing.none_))] ?_
      refine C_sq ?_
      refine C_rg ttOk 7 ?_
      refine R_al ?_
      refine E_tn [(5, (e_value_thing (value_thing.k_words y5))), (7, (e_value_thing value_thing.none_)), (9, (eInt .i64 0)), (10, (eBool false))] ?_
      refine C_sq ?_
      refine C_rg ttOk 7 ?_
      refine R_al ?_
      refine E_tn [(5, (e_value_thing (value_thing.k_words y5))), (7, (e_value_thing value_thing.none_)), (9, (eInt .i64 0)), (10, (eBool false)), (11, (eInt .i64 0)), (12, (eBool false))] ?_
      refine C_sq ?_
      refine C_bk 0 ?_
      refine C_sq ?_
      refine C_rg ttOk 5 ?_
      refine R_al ?_
      refine E_tn [(5, (e_value_thing (value_thing.k_words y5))), (7, (e_value_thing value_thing.none_)), (9, (eInt .i64 0)), (10, (eBool false)), (11, (eInt .i64 0)), (12, (eBool false)), (39, (eBool false))] ?_
      refine C_cn (false) (fun hc45 => ?_) (fun hc45 => ?_)
      · cases hc45
      · refine C_sq ?_
        refine C_rg ttOk 2 ?_
        refine R_al ?_
        refine E_tn [(5, (e_value_thing (value_thing.k_words y5))), (7, (e_value_thing value_thing.none_)), (12, (eBool false)), (47, (eBool false))] ?_
        refine C_cn (false) (fun hc46 => ?_) (fun hc46 => ?_)
        · cases hc46
        · refine C_sq ?_
          refine C_rg ttOk 2 ?_
          refine R_al ?_
          refine E_tn [(5, (e_value_thing (value_thing.k_words y5))), (7, (e_value_thing value_thing.none_)), (49, (eBool false))] ?_
          refine C_cn (false) (fun hc47 => ?_) (fun hc47 => ?_)
          · cases hc47
          · refine C_sk ?_
            refine E_hk [(5, (e_value_thing (value_thing.k_words y5))), (7, (e_value_thing value_thing.none_))] ?_
            refine E_done (blockA_normal (thenA_normal (?_)))
            refine C_sq ?_
            refine A_cl (C_draw (pl := plOf []) ttOk (by kernel_rfl) (n := 6) (by kernel_rfl) (by kernel_rfl) (by kernel_rfl) ?_)
            cases h0
    · replace h0 : (cond ((!x1_1) || (!x39_1)) (some (0 : Int)) (some (1 : Int))) = some r := h0
      refine R_al ?_
      refine E_tn [(5, (e_value_thing (value_thing.k_words y5))), (6, (eBool x1_1)), (7, (e_value_thing (value_thing.k_number y42))), (8, (eBool x39_1))] ?_
      refine C_sq ?_
      refine C_sq ?_
      refine C_rg ttOk 6 ?_
      refine R_al ?_
      refine E_tn [(5, (e_value_thing (value_thing.k_words y5))), (7, (e_value_thing (value_thing.k_number y42))), (28, (eBool ((!x1_1) || (!x39_1))))] ?_
      refine C_cn ((!x1_1) || (!x39_1)) (fun hc48 => ?_) (fun hc48 => ?_)
      · replace h0 := condT hc48 h0
        refine C_sq ?_
        refine C_rg ttOk 1 ?_
        refine R_al ?_
        refine E_tn [(4, (eInt .i64 (0 : Int)))] ?_
        refine C_rt ?_
        refine E_hk [(4, (eInt .i64 (0 : Int)))] ?_
        obtain rfl := Option.some.inj h0
        exact E_done (thenA_ret (Q_ret (x := (eInt .i64 (0 : Int))) (by kernel_rfl) (SubV.refl _) ⟨rfl, hO.out⟩))
      replace h0 := condF hc48 h0
      refine C_sk ?_
      refine E_tn [(5, (e_value_thing (value_thing.k_words y5))), (7, (e_value_thing (value_thing.k_number y42)))] ?_
      refine C_sq ?_
      refine C_rg ttOk 7 ?_
      refine R_al ?_
      refine E_tn [(5, (e_value_thing (value_thing.k_words y5))), (7, (e_value_thing (value_thing.k_number y42))), (9, (eInt .i64 0)), (10, (eBool false))] ?_
      refine C_sq ?_
      refine C_rg ttOk 7 ?_
      refine R_al ?_
      refine E_tn [(5, (e_value_thing (value_thing.k_words y5))), (7, (e_value_thing (value_thing.k_number y42))), (9, (eInt .i64 0)), (10, (eBool false)), (11, (eInt .i64 y42)), (12, (eBool true))] ?_
      refine C_sq ?_
      refine C_bk 0 ?_
      refine C_sq ?_
      refine C_rg ttOk 5 ?_
      refine R_al ?_
      refine E_tn [(5, (e_value_thing (value_thing.k_words y5))), (7, (e_value_thing (value_thing.k_number y42))), (9, (eInt .i64 0)), (10, (eBool false)), (11, (eInt .i64 y42)), (12, (eBool true)), (39, (eBool false))] ?_
      refine C_cn (false) (fun hc49 => ?_) (fun hc49 => ?_)
      · cases hc49
      · refine C_sq ?_
        refine C_rg ttOk 2 ?_
        refine R_al ?_
        refine E_tn [(5, (e_value_thing (value_thing.k_words y5))), (7, (e_value_thing (value_thing.k_number y42))), (12, (eBool true)), (47, (eBool false))] ?_
        refine C_cn (false) (fun hc50 => ?_) (fun hc50 => ?_)
        · cases hc50
        · refine C_sq ?_
          refine C_rg ttOk 2 ?_
          refine R_al ?_
          refine E_tn [(5, (e_value_thing (value_thing.k_words y5))), (7, (e_value_thing (value_thing.k_number y42))), (49, (eBool true))] ?_
          refine C_cn (true) (fun hc51 => ?_) (fun hc51 => ?_)
          · refine C_sq ?_
            refine C_rg ttOk 1 ?_
            refine R_al ?_
            refine E_tn [(4, (eInt .i64 (1 : Int)))] ?_
            refine C_rt ?_
            refine E_hk [(4, (eInt .i64 (1 : Int)))] ?_
            obtain rfl := Option.some.inj h0
            exact E_done (blockA_ret (thenA_ret (Q_ret (x := (eInt .i64 (1 : Int))) (by kernel_rfl) (SubV.refl _) ⟨rfl, hO.out⟩)))
          · cases hc51
    · replace h0 : (cond ((!x1_1) || (!x39_1)) (some (0 : Int)) ((s_strings_Compare y5 y43).bind fun x56 => some x56)) = some r := h0
      refine R_al ?_
      refine E_tn [(5, (e_value_thing (value_thing.k_words y5))), (6, (eBool x1_1)), (7, (e_value_thing (value_thing.k_words y43))), (8, (eBool x39_1))] ?_
      refine C_sq ?_
      refine C_sq ?_
      refine C_rg ttOk 6 ?_
      refine R_al ?_
      refine E_tn [(5, (e_value_thing (value_thing.k_words y5))), (7, (e_value_thing (value_thing.k_words y43))), (28, (eBool ((!x1_1) || (!x39_1))))] ?_
      refine C_cn ((!x1_1) || (!x39_1)) (fun hc52 => ?_) (fun hc52 => ?_)
      · replace h0 := condT hc52 h0
        refine C_sq ?_
        refine C_rg ttOk 1 ?_
        refine R_al ?_
        refine E_tn [(4, (eInt .i64 (0 : Int)))] ?_
        refine C_rt ?_
        refine E_hk [(4, (eInt .i64 (0 : Int)))] ?_
        obtain rfl := Option.some.inj h0
        exact E_done (thenA_ret (Q_ret (x := (eInt .i64 (0 : Int))) (by kernel_rfl) (SubV.refl _) ⟨rfl, hO.out⟩))
      replace h0 := condF hc52 h0
      refine C_sk ?_
      refine E_tn [(5, (e_value_thing (value_thing.k_words y5))), (7, (e_value_thing (value_thing.k_words y43)))] ?_
      refine C_sq ?_
      refine C_rg ttOk 7 ?_
      refine R_al ?_
      refine E_tn [(5, (e_value_thing (value_thing.k_words y5))), (7, (e_value_thing (value_thing.k_words y43))), (9, (eInt .i64 0)), (10, (eBool false))] ?_
      refine C_sq ?_
      refine C_rg ttOk 7 ?_
      refine R_al ?_
      refine E_tn [(5, (e_value_thing (value_thing.k_words y5))), (7, (e_value_thing (value_thing.k_words y43))), (9, (eInt .i64 0)), (10, (eBool false)), (11, (eInt .i64 0)), (12, (eBool false))] ?_
      refine C_sq ?_
      refine C_bk 0 ?_
      refine C_sq ?_
      refine C_rg ttOk 5 ?_
      refine R_al ?_
      refine E_tn [(5, (e_value_thing (value_thing.k_words y5))), (7, (e_value_thing (value_thing.k_words y43))), (9, (eInt .i64 0)), (10, (eBool false)), (11, (eInt .i64 0)), (12, (eBool false)), (39, (eBool false))] ?_
      refine C_cn (false) (fun hc53 => ?_) (fun hc53 => ?_)
      · cases hc53
      · refine C_sq ?_
        refine C_rg ttOk 2 ?_
        refine R_al ?_
        refine E_tn [(5, (e_value_thing (value_thing.k_words y5))), (7, (e_value_thing (value_thing.k_words y43))), (12, (eBool false)), (47, (eBool false))] ?_
        refine C_cn (false) (fun hc54 => ?_) (fun hc54 => ?_)
        · cases hc54
        · refine C_sq ?_
          refine C_rg ttOk 2 ?_
          refine R_al ?_
          refine E_tn [(5, (e_value_thing (value_thing.k_words y5))), (7, (e_value_thing (value_thing.k_words y43))), (49, (eBool false))] ?_
          refine C_cn (false) (fun hc55 => ?_) (fun hc55 => ?_)
          · cases hc55
          · refine C_sk ?_
            refine E_hk [(5, (e_value_thing (value_thing.k_words y5))), (7, (e_value_thing (value_thing.k_words y43)))] ?_
            refine E_done (blockA_normal (thenA_normal (?_)))
            refine C_sq ?_
            refine A_cl (C_draw (pl := plOf []) ttOk (by kernel_rfl) (n := 6) (by kernel_rfl) (by kernel_rfl) (by kernel_rfl) ?_)
            refine D_pu 4 ?_
            obtain ⟨x56, hx57, h0⟩ := bindE h0
            refine D_callO 115 [(eStr y5), (eStr y43)] (eInt .i64 x56) (by kernel_rfl) (by kernel_rfl) (w_strings_Compare y5 y43 _ hx57) hO ?_
            intro H hO
            refine D_al ?_
            refine E_tn [(4, (eInt .i64 x56))] ?_
            refine C_rt ?_
            refine E_hk [(4, (eInt .i64 x56))] ?_
            obtain rfl := Option.some.inj h0
            exact E_done (Q_ret (x := (eInt .i64 x56)) (by kernel_rfl) (SubV.refl _) ⟨rfl, hO.out⟩)

theorem w_row_Compare (a0 : (List api_Value)) (b1 : (List api_Value)) (r : Int) (h0 : s_row_Compare a0 b1 = some r) : Fine Try.prog 61 [(eL e_api_Value a0), (eL e_api_Value b1)] (eInt .i64 r) := by
  intro H0
  refine F_walk Try.func61 (by kernel_rfl) (by kernel_rfl) (by kernel_rfl) ?_
  have hO := Owns.start H0
  unfold s_row_Compare at h0
  refine C_sq ?_
  refine C_rg ttOk 2 ?_
  refine R_boxF 1 (eL e_api_Value b1) (by kernel_rfl) (by kernel_rfl) ?_
  refine R_al ?_
  refine E_tn [(0, (eL e_api_Value a0)), (3, (.rp (eL e_api_Value b1)))] ?_
  refine C_sq ?_
  refine C_sq ?_
  refine C_rg ttOk 8 ?_
  refine R_pu 1 ?_
  obtain ⟨x1, hx2, h0⟩ := bindE h0
  refine R_cO 55 [(eL e_api_Value a0)] (eBool x1) (w_row_May a0 _ hx2) hO ?_
  intro H hO
  refine R_pu 5 ?_
  obtain ⟨x4, hx5, h0⟩ := bindE h0
  refine R_callO [(10, false)] 55 [(eL e_api_Value b1)] (eBool x4) (!(!x1)) (by kernel_rfl) (by kernel_rfl) (by kernel_rfl) (fun hb6 => (w_row_May b1 _ (gcallE hx5 hb6))) hO ?_
  intro H hO
  refine R_al ?_
  refine E_tn [(0, (eL e_api_Value a0)), (3, (.rp (eL e_api_Value b1))), (14, (eBool ((!x1) || (!x4))))] ?_
  refine C_cn ((!x1) || (!x4)) (fun hc7 => ?_) (fun hc7 => ?_)
  · replace h0 := condT hc7 h0
    refine C_sq ?_
    refine C_rg ttOk 1 ?_
    refine R_al ?_
    refine E_tn [(4, (eInt .i64 (0 : Int)))] ?_
    refine C_rt ?_
    refine E_hk [(4, (eInt .i64 (0 : Int)))] ?_
    obtain rfl := Option.some.inj h0
    exact E_done (thenA_ret (Q_ret (x := (eInt .i64 (0 : Int))) (by kernel_rfl) (SubV.refl _) ⟨rfl, hO.out⟩))
  replace h0 := condF hc7 h0
  refine C_sk ?_
  refine E_tn [(0, (eL e_api_Value a0)), (3, (.rp (eL e_api_Value b1)))] ?_
  refine C_sq ?_
  refine C_rg ttOk 6 ?_
  refine R_al ?_
  refine E_tn [(0, (eL e_api_Value a0)), (3, (.rp (eL e_api_Value b1))), (5, (eInt .i64 (if ((List.length b1 : Nat) : Int) < ((List.length a0 : Nat) : Int) then ((List.length b1 : Nat) : Int) else ((List.length a0 : Nat) : Int))))] ?_
  refine C_sq ?_
  refine A_cl (C_draw (pl := plOf []) ttOk (by kernel_rfl) (n := 7) (by kernel_rfl) (by kernel_rfl) (by kernel_rfl) ?_)
  obtain ⟨c8, h0⟩ := asrtE h0
  refine D_pure 4 (by kernel_rfl) (Ds := [0 ≤ (if ((List.length b1 : Nat) : Int) < ((List.length a0 : Nat) : Int) then ((List.length b1 : Nat) : Int) else ((List.length a0 : Nat) : Int)) ∧ (if ((List.length b1 : Nat) : Int) < ((List.length a0 : Nat) : Int) then ((List.length b1 : Nat) : Int) else ((List.length a0 : Nat) : Int)) ≤ ((List.length a0 : Nat) : Int)]) (by kernel_rfl) ⟨c8, trivial⟩ ?_
  obtain ⟨x9, hx10, h0⟩ := bindE h0
  refine D_callP (L' := fun lo11 => [(lo11, 1, [(eInt .i64 x9.1)])]) 1 [(eInt .i64 x9.1)] 92 [(.rp (eL e_api_Value b1))] (fun lo11 => (.fn (.func 93) [] [(.lp lo11 0 0), (.rp (eL e_api_Value x9.2))])) (by kernel_rfl) (by kernel_rfl) (w_row_Compare_1 b1 _ hx10) hO (fun _ => by kernel_rfl) ?_
  intro lo11 H hO
  obtain ⟨x12, hx13, h0⟩ := bindE h0
  refine D_callG (fun st G' => G' = up [(lo11, 1, [(eInt .i64 st)])] ++ []) [(lo11, 1, [(eInt .i64 x12.1)])] x9.1 x12.1 91 [(.sl false (Int.toNat (if ((List.length b1 : Nat) : Int) < ((List.length a0 : Nat) : Int) then ((List.length b1 : Nat) : Int) else ((List.length a0 : Nat) : Int))) (fun i => e_api_Value (List.getD a0 i default))), (.fn (.func 93) [] [(.lp lo11 0 0), (.rp (eL e_api_Value x9.2))])] (eInt .i64 x12.2) (by kernel_rfl) (by kernel_rfl) (FineG.sub (as0' := [(eL e_api_Value (List.take (Int.toNat (if ((List.length b1 : Nat) : Int) < ((List.length a0 : Nat) : Int) then ((List.length b1 : Nat) : Int) else ((List.length a0 : Nat) : Int))) a0)), (.fn (.func 93) [] [(.lp lo11 0 0), (.rp (eL e_api_Value x9.2))])]) (w_slices_IndexFunc_api_Row_api_Value_F _ (List.take (Int.toNat (if ((List.length b1 : Nat) : Int) < ((List.length a0 : Nat) : Int) then ((List.length b1 : Nat) : Int) else ((List.length a0 : Nat) : Int))) a0) (.fn (.func 93) [] [(.lp lo11 0 0), (.rp (eL e_api_Value x9.2))]) (fun st y0 => (s_row_Compare_1_1 y0 st x9.2).bind fun o => some (o.2, o.1)) (fun st y0 st2 rr hr => (w_row_Compare_1_1 y0 lo11 st x9.2 _ (swapE hr)).toV (ys := []) (zs := [(e_api_Value y0)]) (cs := [(.lp lo11 0 0), (.rp (eL e_api_Value x9.2))]) (fun Gx hG => ⟨up [], up [] ++ [], hG, rfl⟩)) _ _ hx13) ⟨subTake (Int.toNat_le.2 (And.right c8)), SubV.refl _, trivial⟩) hO rfl (fun _ h => h) ?_
  intro H hO
  refine D_al ?_
  refine E_hk [(0, (eL e_api_Value a0)), (3, (.rp (eL e_api_Value b1))), (6, (eInt .i64 x12.2))] ?_
  replace hO := hO.pick (L' := []) [] (by decide) (by kernel_rfl)
  refine E_done (thenA_normal (?_))
  refine C_sq ?_
  refine C_sq ?_
  refine C_rg ttOk 2 ?_
  refine R_al ?_
  refine E_tn [(0, (eL e_api_Value a0)), (3, (.rp (eL e_api_Value b1))), (6, (eInt .i64 x12.2)), (27, (eBool (decide (x12.2 < (0 : Int)))))] ?_
  refine C_cn (decide (x12.2 < (0 : Int))) (fun hc14 => ?_) (fun hc14 => ?_)
  · replace h0 := condT hc14 h0
    refine C_sq ?_
    refine C_rg ttOk 6 ?_
    refine R_pu 4 ?_
    obtain ⟨x15, hx16, h0⟩ := bindE h0
    refine R_cO 62 [(eInt .i64 ((List.length a0 : Nat) : Int)), (eInt .i64 ((List.length b1 : Nat) : Int))] (eInt .i64 x15) (w_cmp_Compare_int ((List.length a0 : Nat) : Int) ((List.length b1 : Nat) : Int) _ hx16) hO ?_
    intro H hO
    refine R_al ?_
    refine E_tn [(4, (eInt .i64 x15))] ?_
    refine C_rt ?_
    refine E_hk [(4, (eInt .i64 x15))] ?_
    obtain rfl := Option.some.inj h0
    exact E_done (thenA_ret (Q_ret (x := (eInt .i64 x15)) (by kernel_rfl) (SubV.refl _) ⟨rfl, hO.out⟩))
  replace h0 := condF hc14 h0
  refine C_sk ?_
  refine E_tn [(0, (eL e_api_Value a0)), (3, (.rp (eL e_api_Value b1))), (6, (eInt .i64 x12.2))] ?_
  refine C_sq ?_
  refine A_cl (C_draw (pl := plOf [36, 37, 40]) ttOk (by kernel_rfl) (n := 10) (by kernel_rfl) (by kernel_rfl) (by kernel_rfl) ?_)
  obtain ⟨c18, h0⟩ := asrtE h0
  obtain ⟨c19, h0⟩ := asrtE h0
  refine D_pure 8 (by kernel_rfl) (Ds := [0 ≤ x12.2 ∧ x12.2 < ((List.length a0 : Nat) : Int), 0 ≤ x12.2 ∧ x12.2 < ((List.length b1 : Nat) : Int)]) (by kernel_rfl) ⟨c18, c19, trivial⟩ ?_
  obtain ⟨x20, hx21, h0⟩ := bindE h0
  refine D_callO 94 [(e_api_Value (List.getD a0 (Int.toNat x12.2) default)), (e_api_Value (List.getD b1 (Int.toNat x12.2) default))] (eInt .i64 x20) (by kernel_rfl) (by kernel_rfl) (w_value_Compare (List.getD a0 (Int.toNat x12.2) default) (List.getD b1 (Int.toNat x12.2) default) _ hx21) hO ?_
  intro H hO
  refine D_al ?_
  refine E_tn [(4, (eInt .i64 x20))] ?_
  refine C_rt ?_
  refine E_hk [(4, (eInt .i64 x20))] ?_
  obtain rfl := Option.some.inj h0
  exact E_done (Q_ret (x := (eInt .i64 x20)) (by kernel_rfl) (SubV.refl _) ⟨rfl, hO.out⟩)

theorem w_edge_each (l0 : (List api_Edge)) (holds1_f : Nat) (holds1_a holds1_c : List V) (holds1 : (List api_Jump) → Option Bool) (holds1_h : ∀ a0 r, holds1 a0 = some r → Fine Try.prog holds1_f (holds1_a ++ [(eL e_api_Jump a0)] ++ holds1_c) (eBool r)) (r : Bool) (h0 : s_edge_each l0 holds1 = some r) : Fine Try.prog 49 [(eL e_api_Edge l0), (.fn (.func holds1_f) holds1_a holds1_c)] (eBool r) := by
  intro H0
  refine F_walkM ttOk Try.func49 (by kernel_rfl) (by kernel_rfl) (by kernel_rfl) ?_
  have hO := Owns.start H0
  unfold s_edge_each at h0
  refine C_sq ?_
  refine C_rg ttOk 2 ?_
  refine R_boxF 1 (.fn (.func holds1_f) holds1_a holds1_c) (by kernel_rfl) (by kernel_rfl) ?_
  refine R_allocO 1 (eBool false) (by kernel_rfl) (by kernel_rfl) hO ?_
  intro lo1 H hO
  refine R_en ?_
  refine E_tn [(0, (eL e_api_Edge l0)), (3, (.rp (.fn (.func holds1_f) holds1_a holds1_c))), (4, (.lp lo1 0 0))] ?_
  refine C_sq ?_
  refine C_sq ?_
  refine C_rg ttOk 3 ?_
  refine R_al ?_
  refine E_tn [(0, (eL e_api_Edge l0)), (3, (.rp (.fn (.func holds1_f) holds1_a holds1_c))), (4, (.lp lo1 0 0)), (11, (eBool (decide ((4096 : Int) < ((List.length l0 : Nat) : Int)))))] ?_
  refine C_cn (decide ((4096 : Int) < ((List.length l0 : Nat) : Int))) (fun hc2 => ?_) (fun hc2 => ?_)
  · replace h0 := condT hc2 h0
    refine C_sq ?_
    refine C_rg ttOk 1 ?_
    refine R_storeOL 0 lo1 1 0 (eBool false) (eBool false) [(eBool false)] [(lo1, 1, [(eBool false)])] (by kernel_rfl) (by kernel_rfl) (by kernel_rfl) hO (by kernel_rfl) rfl (by kernel_rfl) ?_
    intro H hO
    refine R_en ?_
    refine E_tn [(4, (.lp lo1 0 0))] ?_
    refine C_rt ?_
    refine E_hk [(4, (.lp lo1 0 0))] ?_
    obtain rfl := Option.some.inj h0
    exact E_done (thenA_ret (QM0 (.inr rfl) (rs := [.cell 4 4]) (xs := [(eBool false)]) (x := (eBool false)) (by kernel_rfl) (resCell (lo := lo1) (k := 1) (y := (eBool false)) (x := (eBool false)) 0 hO (by kernel_rfl) (by kernel_rfl) (by kernel_rfl) (by kernel_rfl) resNil) (by kernel_rfl) ⟨rfl, hO.out⟩))
  replace h0 := condF hc2 h0
  refine C_sk ?_
  refine E_tn [(0, (eL e_api_Edge l0)), (3, (.rp (.fn (.func holds1_f) holds1_a holds1_c))), (4, (.lp lo1 0 0))] ?_
  refine C_sq ?_
  refine C_rg ttOk 1 ?_
  refine R_allocZ 1 (.sl true 0 (fun _ => .bad)) (eL e_api_Value ([])) (by kernel_rfl) (by kernel_rfl) (by kernel_rfl) (subNilL) (by kernel_rfl) (by kernel_rfl) hO ?_
  intro lo3 H hO
  refine R_en ?_
  refine E_tn [(0, (eL e_api_Edge l0)), (3, (.rp (.fn (.func holds1_f) holds1_a holds1_c))), (4, (.lp lo1 0 0)), (5, (.lp lo3 0 0))] ?_
  refine C_sq ?_
  refine C_rg ttOk 2 ?_
  refine R_allocO 1 (eBool false) (by kernel_rfl) (by kernel_rfl) hO ?_
  intro lo4 H hO
  refine R_storeOL 2 lo4 1 0 (eBool false) (eBool false) [(eBool false)] [(lo1, 1, [(eBool false)]), (lo3, 1, [(eL e_api_Value ([]))]), (lo4, 1, [(eBool false)])] (by kernel_rfl) (by kernel_rfl) (by kernel_rfl) hO (by kernel_rfl) rfl (by kernel_rfl) ?_
  intro H hO
  refine R_en ?_
  refine E_tn [(0, (eL e_api_Edge l0)), (3, (.rp (.fn (.func holds1_f) holds1_a holds1_c))), (4, (.lp lo1 0 0)), (5, (.lp lo3 0 0)), (6, (.lp lo4 0 0))] ?_
  refine C_sq ?_
  refine C_sq ?_
  refine C_rg ttOk 2 ?_
  refine R_pu 1 ?_
  obtain ⟨x5, hx6, h0⟩ := bindE h0
  refine R_cO 70 [(eL e_api_Edge l0)] (.fn (.func 104) [] [(.rp (eL e_api_Edge x5))]) (w_edge_runs l0 _ hx6) hO ?_
  intro H hO
  refine R_en ?_
  refine E_tn [(3, (.rp (.fn (.func holds1_f) holds1_a holds1_c))), (4, (.lp lo1 0 0)), (5, (.lp lo3 0 0)), (6, (.lp lo4 0 0)), (13, (.fn (.func 104) [] [(.rp (eL e_api_Edge x5))]))] ?_
  refine C_bk 0 ?_
  refine C_hk [(3, (.rp (.fn (.func holds1_f) holds1_a holds1_c))), (4, (.lp lo1 0 0)), (5, (.lp lo3 0 0)), (6, (.lp lo4 0 0)), (13, (.fn (.func 104) [] [(.rp (eL e_api_Edge x5))]))] ?_
  refine C_cut (fun T H => ∃ t4 : Bool, ∃ last5 : (List api_Value), ∃ begun6 : Bool, ∃ t13c0 : (List api_Edge), ∃ lo7 : Nat, ∃ lo8 : Nat, ∃ lo9 : Nat, Has T [(3, (.rp (.fn (.func holds1_f) holds1_a holds1_c))), (4, (.lp lo7 0 0)), (5, (.lp lo8 0 0)), (6, (.lp lo9 0 0)), (13, (.fn (.func 104) [] [(.rp (eL e_api_Edge t13c0))]))] ∧ Owns ⟨H0, [], []⟩ H [(lo7, 1, [(eBool t4)]), (lo8, 1, [(eL e_api_Value last5)]), (lo9, 1, [(eBool begun6)])] ∧ edge_each_h1 holds1 t4 last5 begun6 t13c0 = some r) ?_ ⟨false, [], false, x5, lo1, lo3, lo4, .eq (by kernel_rfl), hO, h0⟩
  clear hO h0
  rintro T H ⟨t4, last5, begun6, t13c0, lo7, lo8, lo9, hT, hO, h0⟩
  refine C_has (l := [(3, (.rp (.fn (.func holds1_f) holds1_a holds1_c))), (4, (.lp lo7 0 0)), (5, (.lp lo8 0 0)), (6, (.lp lo9 0 0)), (13, (.fn (.func 104) [] [(.rp (eL e_api_Edge t13c0))]))]) hT ?_
  clear hT
  unfold edge_each_h1 at h0
  obtain ⟨o0, hl0, h0⟩ := bindE h0
  refine C_rangeG (fid := 104) (ys := []) (cs := [(.rp (eL e_api_Edge t13c0))]) #[14, 15] (fun (A : LoopA) (b lL : Nat) (st : (Bool × (List api_Value) × Bool) ⊕ (Bool × (List api_Value) × Bool)) (G' : Gs) => Sum.elim (fun (s : Bool × (List api_Value) × Bool) => G' = (lL, .raw (loopS b A .ready none)) :: (up [(lo7, 1, [(eBool s.1)]), (lo8, 1, [(eL e_api_Value s.2.1)]), (lo9, 1, [(eBool s.2.2)])] ++ [])) (fun (s : Bool × (List api_Value) × Bool) => G' = (lL, .raw (loopS b A .done (some .ret))) :: (up [(lo7, 1, [(eBool s.1)]), (lo8, 1, [(eL e_api_Value s.2.1)]), (lo9, 1, [(eBool s.2.2)])] ++ [])) st) (.inl (t4, last5, begun6)) o0 (.tup []) (by kernel_rfl) (by kernel_rfl) (by kernel_rfl) hO (fun _ _ => rfl) ?_ ?_
  · intro b lL
    clear hO h0
    refine w_edge_runs_1_G _ b (fun st t14 t15 => rnd (fun (s : Bool × (List api_Value) × Bool) => edge_each_l1 holds1 t13c0 s.1 s.2.1 s.2.2 t14 t15) st) ?_ t13c0 _ _ hl0
    intro st t14 t15 st2 rr hr
    obtain ⟨s, rfl, h1, rfl⟩ := rndE hr
    clear hr
    intro Hr Gr hi hg
    obtain ⟨t4, last5, begun6⟩ := s
    dsimp only [Sum.elim_inl] at hi
    obtain rfl := hi
    replace h1 : edge_each_l1 holds1 t13c0 t4 last5 begun6 t14 t15 = some st2 := h1
    unfold edge_each_l1 at h1
    obtain ⟨E1, hE, hO⟩ := round_start hg
    refine fcall_yield (yield_of (hO.gm 0 _ rfl).2 (by kernel_rfl) (by kernel_rfl) ?_)
    refine C_hk [(3, (.rp (.fn (.func holds1_f) holds1_a holds1_c))), (4, (.lp lo7 0 0)), (5, (.lp lo8 0 0)), (6, (.lp lo9 0 0)), (13, (.fn (.func 104) [] [(.rp (eL e_api_Edge t13c0))])), (14, (eL e_api_Value t14)), (15, (eL e_api_Jump t15))] ?_
    refine C_sq ?_
    refine C_rg ttOk 1 ?_
    refine R_al ?_
    refine E_tn [(3, (.rp (.fn (.func holds1_f) holds1_a holds1_c))), (4, (.lp lo7 0 0)), (5, (.lp lo8 0 0)), (6, (.lp lo9 0 0)), (7, (eL e_api_Value t14)), (15, (eL e_api_Jump t15))] ?_
    refine C_rg ttOk 1 ?_
    refine R_al ?_
    refine E_hk [(3, (.rp (.fn (.func holds1_f) holds1_a holds1_c))), (4, (.lp lo7 0 0)), (5, (.lp lo8 0 0)), (6, (.lp lo9 0 0)), (7, (eL e_api_Value t14)), (8, (eL e_api_Jump t15))] ?_
    refine E_done (⟨rfl, rfl, (hO.gm 0 _ rfl).2, ?_⟩)
    intro o1 ho1
    replace hO := hO.gset o1
    refine C_bk 1 ?_
    refine C_sq ?_
    refine C_sq ?_
    refine C_rg ttOk 18 ?_
    refine R_pu 1 ?_
    obtain ⟨x10, hx11, h1⟩ := bindE h1
    refine R_cO 55 [(eL e_api_Value t14)] (eBool x10) (w_row_May t14 _ hx11) hO ?_
    intro H hO
    refine R_pu 4 ?_
    refine R_loadO [(19, false)] 2 lo9 1 0 (eBool begun6) (eBool begun6) [(eBool begun6)] (by kernel_rfl) (by kernel_rfl) hO (by kernel_rfl) (!(!x10)) (by kernel_rfl) (fun hb13 => rfl) ?_
    refine R_pu 6 ?_
    refine R_loadO [(21, true), (19, false)] 1 lo8 1 0 (eL e_api_Value last5) (eL e_api_Value last5) [(eL e_api_Value last5)] (by kernel_rfl) (by kernel_rfl) hO (by kernel_rfl) (begun6 && (!(!x10))) (by kernel_rfl) (fun hb14 => rfl) ?_
    refine R_pu 8 ?_
    obtain ⟨x15, hx16, h1⟩ := bindE h1
    refine R_callO [(21, true), (19, false)] 61 [(eL e_api_Value last5), (eL e_api_Value t14)] (eInt .i64 x15) (begun6 && (!(!x10))) (by kernel_rfl) (by kernel_rfl) (by kernel_rfl) (fun hb17 => (w_row_Compare last5 t14 _ (gcallE hx16 hb17))) hO ?_
    intro H hO
    refine R_pu 15 ?_
    obtain ⟨x18, hx19, h1⟩ := bindE h1
    refine R_callO [(28, false)] holds1_f (holds1_a ++ [(eL e_api_Jump t15)] ++ holds1_c) (eBool x18) (!((!x10) || (begun6 && (decide ((0 : Int) ≤ x15))))) (by kernel_rfl) (by kernel_rfl) (by kernel_rfl) (fun hb20 => (holds1_h t15 _ (gcallE hx19 hb20))) hO ?_
    intro H hO
    refine R_al ?_
    refine E_tn [(4, (.lp lo7 0 0)), (5, (.lp lo8 0 0)), (6, (.lp lo9 0 0)), (7, (eL e_api_Value t14)), (33, (eBool (((!x10) || (begun6 && (decide ((0 : Int) ≤ x15)))) || (!x18))))] ?_
    refine C_cn (((!x10) || (begun6 && (decide ((0 : Int) ≤ x15)))) || (!x18)) (fun hc21 => ?_) (fun hc21 => ?_)
    · replace h1 := condT hc21 h1
      refine C_sq ?_
      refine C_rg ttOk 1 ?_
      refine R_storeOL 0 lo7 1 0 (eBool t4) (eBool false) [(eBool t4)] [(lo7, 1, [(eBool false)]), (lo8, 1, [(eL e_api_Value last5)]), (lo9, 1, [(eBool begun6)])] (by kernel_rfl) (by kernel_rfl) (by kernel_rfl) hO (by kernel_rfl) rfl (by kernel_rfl) ?_
      intro H hO
      refine R_en ?_
      refine E_tn [(4, (.lp lo7 0 0)), (5, (.lp lo8 0 0)), (6, (.lp lo9 0 0))] ?_
      refine C_rt ?_
      refine E_hk [(4, (.lp lo7 0 0)), (5, (.lp lo8 0 0)), (6, (.lp lo9 0 0))] ?_
      obtain rfl := Option.some.inj h1
      exact E_done (thenA_ret (blockA_ret (⟨(round_end hO hE ho1 .dead).1, rfl, _, rfl, (round_end hO hE ho1 _).2⟩)))
    replace h1 := condF hc21 h1
    refine C_sk ?_
    refine E_tn [(4, (.lp lo7 0 0)), (5, (.lp lo8 0 0)), (6, (.lp lo9 0 0)), (7, (eL e_api_Value t14))] ?_
    refine C_rg ttOk 3 ?_
    refine R_pu 1 ?_
    refine R_storeOL 1 lo8 1 0 (eL e_api_Value last5) (eL e_api_Value t14) [(eL e_api_Value last5)] [(lo7, 1, [(eBool t4)]), (lo8, 1, [(eL e_api_Value t14)]), (lo9, 1, [(eBool begun6)])] (by kernel_rfl) (by kernel_rfl) (by kernel_rfl) hO (by kernel_rfl) rfl (by kernel_rfl) ?_
    intro H hO
    refine R_storeOL 2 lo9 1 0 (eBool begun6) (eBool true) [(eBool begun6)] [(lo7, 1, [(eBool t4)]), (lo8, 1, [(eL e_api_Value t14)]), (lo9, 1, [(eBool true)])] (by kernel_rfl) (by kernel_rfl) (by kernel_rfl) hO (by kernel_rfl) rfl (by kernel_rfl) ?_
    intro H hO
    refine R_en ?_
    refine E_hk [(4, (.lp lo7 0 0)), (5, (.lp lo8 0 0)), (6, (.lp lo9 0 0))] ?_
    obtain rfl := Option.some.inj h1
    exact E_done (blockA_normal (⟨(round_end hO hE ho1 .dead).1, rfl, _, rfl, (round_end hO hE ho1 _).2⟩))
  · intro b lD lL H' G' hi hO
    rcases o0 with s | s
    · dsimp only [Sum.elim_inl] at hi
      obtain rfl := hi
      replace h0 : (some true) = some r := h0
      obtain ⟨hlL, hO⟩ := after_loop hO
      refine ⟨_, _, hlL, (by intro e; cases e), ?_⟩
      refine E_hk [(4, (.lp lo7 0 0))] ?_
      replace hO := hO.pick (L' := [(lo7, 1, [(eBool s.1)])]) [0] (by decide) (by kernel_rfl)
      refine E_done (blockA_normal (thenA_normal (?_)))
      refine C_sq ?_
      refine C_rg ttOk 1 ?_
      refine R_storeOL 0 lo7 1 0 (eBool s.1) (eBool true) [(eBool s.1)] [(lo7, 1, [(eBool true)])] (by kernel_rfl) (by kernel_rfl) (by kernel_rfl) hO (by kernel_rfl) rfl (by kernel_rfl) ?_
      intro H hO
      refine R_en ?_
      refine E_tn [(4, (.lp lo7 0 0))] ?_
      refine C_rt ?_
      refine E_hk [(4, (.lp lo7 0 0))] ?_
      obtain rfl := Option.some.inj h0
      have hD := (hO.gm 0 _ rfl).2
      replace hO := (hO.gset .dead).gdrop
      exact E_done (QM1 (.inr rfl) hD (rs := [.cell 4 4]) (xs := [(eBool true)]) (x := (eBool true)) (by kernel_rfl) (resCell (lo := lo7) (k := 1) (y := (eBool true)) (x := (eBool true)) 0 hO (by kernel_rfl) (by kernel_rfl) (by kernel_rfl) (by kernel_rfl) resNil) (by kernel_rfl) ⟨rfl, hO.out⟩)
    · dsimp only [Sum.elim_inr] at hi
      obtain rfl := hi
      replace h0 : (some s.1) = some r := h0
      obtain ⟨hlL, hO⟩ := after_loop hO
      refine ⟨_, _, hlL, (by intro e; cases e), ?_⟩
      refine C_rt ?_
      refine E_hk [(4, (.lp lo7 0 0))] ?_
      replace hO := hO.pick (L' := [(lo7, 1, [(eBool s.1)])]) [0] (by decide) (by kernel_rfl)
      obtain rfl := Option.some.inj h0
      have hD := (hO.gm 0 _ rfl).2
      replace hO := (hO.gset .dead).gdrop
      exact E_done (blockA_ret (thenA_ret (QM1 (.inr rfl) hD (rs := [.cell 4 4]) (xs := [(eBool s.1)]) (x := (eBool s.1)) (by kernel_rfl) (resCell (lo := lo7) (k := 1) (y := (eBool s.1)) (x := (eBool s.1)) 0 hO (by kernel_rfl) (by kernel_rfl) (by kernel_rfl) (by kernel_rfl) resNil) (by kernel_rfl) ⟨rfl, hO.out⟩)))

theorem w_step_fair (n0 : Int) (r : Bool) (h0 : s_step_fair n0 = some r) : Fine Try.prog 85 [(eInt .i64 n0)] (eBool r) := by
  intro H0
  refine F_walk Try.func85 (by kernel_rfl) (by kernel_rfl) (by kernel_rfl) ?_
  have hO := Owns.start H0
  unfold s_step_fair at h0
  refine C_sq ?_
  refine C_rg ttOk 1 ?_
  refine R_al ?_
  refine E_tn [(0, (eInt .i64 n0))] ?_
  refine C_sq ?_
  refine C_rg ttOk 7 ?_
  refine R_al ?_
  refine E_tn [(2, (eBool ((decide (n0 ≤ (1048576 : Int))) && (decide ((-1048576 : Int) ≤ n0)))))] ?_
  refine C_rt ?_
  refine E_hk [(2, (eBool ((decide (n0 ≤ (1048576 : Int))) && (decide ((-1048576 : Int) ≤ n0)))))] ?_
  obtain rfl := Option.some.inj h0
  exact E_done (Q_ret (x := (eBool ((decide (n0 ≤ (1048576 : Int))) && (decide ((-1048576 : Int) ≤ n0))))) (by kernel_rfl) (SubV.refl _) ⟨rfl, hO.out⟩)

theorem w_step_May (f0 : (List api_Jump)) (r : Bool) (h0 : s_step_May f0 = some r) : Fine Try.prog 51 [(eL e_api_Jump f0)] (eBool r) := by
  intro H0
  refine F_walk Try.func51 (by kernel_rfl) (by kernel_rfl) (by kernel_rfl) ?_
  have hO := Owns.start H0
  unfold s_step_May at h0
  refine C_sq ?_
  refine C_rg ttOk 1 ?_
  refine R_al ?_
  refine E_tn [(0, (eL e_api_Jump f0))] ?_
  refine C_sq ?_
  refine C_sq ?_
  refine C_rg ttOk 3 ?_
  refine R_al ?_
  refine E_tn [(0, (eL e_api_Jump f0)), (8, (eBool (decide ((1024 : Int) < ((List.length f0 : Nat) : Int)))))] ?_
  refine C_cn (decide ((1024 : Int) < ((List.length f0 : Nat) : Int))) (fun hc1 => ?_) (fun hc1 => ?_)
  · replace h0 := condT hc1 h0
    refine C_sq ?_
    refine C_rg ttOk 1 ?_
    refine R_al ?_
    refine E_tn [(2, (eBool false))] ?_
    refine C_rt ?_
    refine E_hk [(2, (eBool false))] ?_
    obtain rfl := Option.some.inj h0
    exact E_done (thenA_ret (Q_ret (x := (eBool false)) (by kernel_rfl) (SubV.refl _) ⟨rfl, hO.out⟩))
  replace h0 := condF hc1 h0
  refine C_sk ?_
  refine E_tn [(0, (eL e_api_Jump f0))] ?_
  refine C_sq ?_
  refine C_rg ttOk 1 ?_
  refine R_al ?_
  refine E_tn [(0, (eL e_api_Jump f0)), (3, (eInt .i64 (-2 : Int)))] ?_
  refine C_seqJ (by kernel_rfl) (fun T H => Has T [] ∧ Owns ⟨H0, [], []⟩ H [] ∧ step_May_j1  = some r) ?_ ?_
  · clear hO h0
    rintro T H ⟨hT, hO, h0⟩
    refine C_has hT ?_
    clear hT
    unfold step_May_j1 at h0
    refine C_sq ?_
    refine C_rg ttOk 1 ?_
    refine R_al ?_
    refine E_tn [(2, (eBool true))] ?_
    refine C_rt ?_
    refine E_hk [(2, (eBool true))] ?_
    obtain rfl := Option.some.inj h0
    exact E_done (Q_ret (x := (eBool true)) (by kernel_rfl) (SubV.refl _) ⟨rfl, hO.out⟩)
  refine C_sq ?_
  refine C_rg ttOk 3 ?_
  refine R_al ?_
  refine E_tn [(3, (eInt .i64 (-2 : Int))), (9, (eL e_api_Jump f0)), (10, (eInt .i64 ((List.length f0 : Nat) : Int))), (11, (eInt .i64 (0 : Int)))] ?_
  refine C_bk 0 ?_
  refine C_hk [(3, (eInt .i64 (-2 : Int))), (9, (eL e_api_Jump f0)), (10, (eInt .i64 ((List.length f0 : Nat) : Int))), (11, (eInt .i64 (0 : Int)))] ?_
  refine C_cut (fun T H => ∃ last3 : Int, ∃ t9 : (List api_Jump), ∃ t10 : Int, ∃ t11 : Int, Has T [(3, (eInt .i64 last3)), (9, (eL e_api_Jump t9)), (10, (eInt .i64 t10)), (11, (eInt .i64 t11))] ∧ Owns ⟨H0, [], []⟩ H [] ∧ step_May_h2 last3 t9 t10 t11 = some r) ?_ ⟨(-2 : Int), f0, ((List.length f0 : Nat) : Int), (0 : Int), .eq (by kernel_rfl), hO, h0⟩
  clear hO h0
  rintro T H ⟨last3, t9, t10, t11, hT, hO, h0⟩
  refine C_has hT ?_
  clear hT
  unfold step_May_h2 at h0
  obtain ⟨rr0, hl0, h0⟩ := bindE h0
  refine C_loopS (by kernel_rfl) (fun (s : Int × Int) T H => Has T [(3, (eInt .i64 s.1)), (9, (eL e_api_Jump t9)), (10, (eInt .i64 t10)), (11, (eInt .i64 s.2))] ∧ Owns ⟨H0, [], []⟩ H []) hl0 ⟨.eq (by kernel_rfl), hO⟩ ?_
  clear hO
  rintro k0 s out1 T H ⟨hT, hO⟩ h1 ho0
  obtain ⟨last3, t11⟩ := s
  replace h1 : step_May_l2 t9 t10 last3 t11 = some out1 := h1
  refine C_has (l := [(3, (eInt .i64 last3)), (9, (eL e_api_Jump t9)), (10, (eInt .i64 t10)), (11, (eInt .i64 t11))]) hT ?_
  clear hT
  unfold step_May_l2 at h1
  refine C_sq ?_
  refine C_rg ttOk 1 ?_
  refine R_al ?_
  refine E_tn [(3, (eInt .i64 last3)), (9, (eL e_api_Jump t9)), (10, (eInt .i64 t10)), (11, (eInt .i64 t11)), (12, (eBool (decide (t11 < t10))))] ?_
  refine C_sq ?_
  refine C_cn (decide (t11 < t10)) (fun hc2 => ?_) (fun hc2 => ?_)
  · replace h1 := condT hc2 h1
    refine C_sk ?_
    refine E_tn [(3, (eInt .i64 last3)), (9, (eL e_api_Jump t9)), (10, (eInt .i64 t10)), (11, (eInt .i64 t11))] ?_
    refine C_sq ?_
    refine C_bk 1 ?_
    refine C_sq ?_
    refine C_rg ttOk 4 ?_
    obtain ⟨c3, h1⟩ := asrtE h1
    refine R_pure 2 (by kernel_rfl) (Ds := [0 ≤ t11 ∧ t11 < ((List.length t9 : Nat) : Int)]) (by kernel_rfl) ⟨c3, trivial⟩ ?_
    refine R_allocO 2 (e_api_Jump (api_Jump.mk 0 0)) (by kernel_rfl) (by kernel_rfl) hO ?_
    intro lo4 H hO
    refine R_storeOL 0 lo4 2 0 (e_api_Jump (api_Jump.mk 0 0)) (e_api_Jump (List.getD t9 (Int.toNat t11) default)) [(e_api_Jump (api_Jump.mk 0 0))] [(lo4, 2, [(e_api_Jump (List.getD t9 (Int.toNat t11) default))])] (by kernel_rfl) (by kernel_rfl) (by kernel_rfl) hO (by kernel_rfl) rfl (by kernel_rfl) ?_
    intro H hO
    refine R_en ?_
    refine E_tn [(3, (eInt .i64 last3)), (5, (.lp lo4 0 0)), (9, (eL e_api_Jump t9)), (10, (eInt .i64 t10)), (11, (eInt .i64 t11))] ?_
    refine C_sq ?_
    refine C_sq ?_
    refine C_rg ttOk 20 ?_
    refine R_pu 1 ?_
    refine R_loadO [] 0 lo4 2 0 (e_api_Jump (List.getD t9 (Int.toNat t11) default)) (eInt .i64 ((List.getD t9 (Int.toNat t11) default).At)) [(e_api_Jump (List.getD t9 (Int.toNat t11) default))] (by kernel_rfl) (by kernel_rfl) hO (by kernel_rfl) true (by kernel_rfl) (fun _ => rfl) ?_
    refine R_pu 6 ?_
    refine R_loadO [(19, false)] 0 lo4 2 0 (e_api_Jump (List.getD t9 (Int.toNat t11) default)) (eInt .i64 ((List.getD t9 (Int.toNat t11) default).At)) [(e_api_Jump (List.getD t9 (Int.toNat t11) default))] (by kernel_rfl) (by kernel_rfl) hO (by kernel_rfl) (!(decide (((List.getD t9 (Int.toNat t11) default).At) ≤ last3))) (by kernel_rfl) (fun hb5 => rfl) ?_
    refine R_pu 11 ?_
    refine R_loadO [(24, false)] 0 lo4 2 0 (e_api_Jump (List.getD t9 (Int.toNat t11) default)) (eInt .i64 ((List.getD t9 (Int.toNat t11) default).Net)) [(e_api_Jump (List.getD t9 (Int.toNat t11) default))] (by kernel_rfl) (by kernel_rfl) hO (by kernel_rfl) (!((decide (((List.getD t9 (Int.toNat t11) default).At) ≤ last3)) || (decide ((1125899906842624 : Int) ≤ ((List.getD t9 (Int.toNat t11) default).At))))) (by kernel_rfl) (fun hb6 => rfl) ?_
    refine R_pu 16 ?_
    refine R_loadO [(29, false)] 0 lo4 2 0 (e_api_Jump (List.getD t9 (Int.toNat t11) default)) (eInt .i64 ((List.getD t9 (Int.toNat t11) default).Net)) [(e_api_Jump (List.getD t9 (Int.toNat t11) default))] (by kernel_rfl) (by kernel_rfl) hO (by kernel_rfl) (!(((decide (((List.getD t9 (Int.toNat t11) default).At) ≤ last3)) || (decide ((1125899906842624 : Int) ≤ ((List.getD t9 (Int.toNat t11) default).At)))) || (decide (((List.getD t9 (Int.toNat t11) default).Net) = (0 : Int))))) (by kernel_rfl) (fun hb7 => rfl) ?_
    obtain ⟨x8, hx9, h1⟩ := bindE h1
    refine R_callO [(29, false)] 85 [(eInt .i64 ((List.getD t9 (Int.toNat t11) default).Net))] (eBool x8) (!(((decide (((List.getD t9 (Int.toNat t11) default).At) ≤ last3)) || (decide ((1125899906842624 : Int) ≤ ((List.getD t9 (Int.toNat t11) default).At)))) || (decide (((List.getD t9 (Int.toNat t11) default).Net) = (0 : Int))))) (by kernel_rfl) (by kernel_rfl) (by kernel_rfl) (fun hb10 => (w_step_fair ((List.getD t9 (Int.toNat t11) default).Net) _ (gcallE hx9 hb10))) hO ?_
    intro H hO
    refine R_al ?_
    refine E_tn [(5, (.lp lo4 0 0)), (9, (eL e_api_Jump t9)), (10, (eInt .i64 t10)), (11, (eInt .i64 t11)), (34, (eBool ((((decide (((List.getD t9 (Int.toNat t11) default).At) ≤ last3)) || (decide ((1125899906842624 : Int) ≤ ((List.getD t9 (Int.toNat t11) default).At)))) || (decide (((List.getD t9 (Int.toNat t11) default).Net) = (0 : Int)))) || (!x8))))] ?_
    refine C_cn ((((decide (((List.getD t9 (Int.toNat t11) default).At) ≤ last3)) || (decide ((1125899906842624 : Int) ≤ ((List.getD t9 (Int.toNat t11) default).At)))) || (decide (((List.getD t9 (Int.toNat t11) default).Net) = (0 : Int)))) || (!x8)) (fun hc11 => ?_) (fun hc11 => ?_)
    · replace h1 := condT hc11 h1
      refine C_sq ?_
      refine C_rg ttOk 1 ?_
      refine R_al ?_
      refine E_hk [(2, (eBool false))] ?_
      replace hO := hO.pick (L' := []) [] (by decide) (by kernel_rfl)
      refine E_done (thenA_normal (?_))
      refine C_rt ?_
      refine E_hk [(2, (eBool false))] ?_
      obtain rfl := Option.some.inj h1
      obtain rfl : _ = rr0 := ho0
      replace h0 : some false = some r := h0
      obtain rfl := Option.some.inj h0
      exact E_done (thenA_ret (blockA_ret (thenA_ret (thenA_ret (blockA_ret (thenA_ret (Q_ret (x := (eBool false)) (by kernel_rfl) (SubV.refl _) ⟨rfl, hO.out⟩)))))))
    replace h1 := condF hc11 h1
    refine C_sk ?_
    refine E_tn [(5, (.lp lo4 0 0)), (9, (eL e_api_Jump t9)), (10, (eInt .i64 t10)), (11, (eInt .i64 t11))] ?_
    refine C_rg ttOk 3 ?_
    refine R_pu 1 ?_
    refine R_loadO [] 0 lo4 2 0 (e_api_Jump (List.getD t9 (Int.toNat t11) default)) (eInt .i64 ((List.getD t9 (Int.toNat t11) default).At)) [(e_api_Jump (List.getD t9 (Int.toNat t11) default))] (by kernel_rfl) (by kernel_rfl) hO (by kernel_rfl) true (by kernel_rfl) (fun _ => rfl) ?_
    refine R_al ?_
    refine E_hk [(3, (eInt .i64 ((List.getD t9 (Int.toNat t11) default).At))), (9, (eL e_api_Jump t9)), (10, (eInt .i64 t10)), (11, (eInt .i64 t11))] ?_
    replace hO := hO.pick (L' := []) [] (by decide) (by kernel_rfl)
    refine E_done (blockA_normal (thenA_normal (?_)))
    refine C_rg ttOk 2 ?_
    refine R_al ?_
    refine E_hk [(3, (eInt .i64 ((List.getD t9 (Int.toNat t11) default).At))), (9, (eL e_api_Jump t9)), (10, (eInt .i64 t10)), (11, (eInt .i64 (IntKind.i64.wrap (t11 + (1 : Int)))))] ?_
    exact E_done (thenA_normal (⟨rfl, ((List.getD t9 (Int.toNat t11) default).At, IntKind.i64.wrap (t11 + (1 : Int))), (Option.some.inj h1).symm, .eq (by kernel_rfl), hO⟩))
  replace h1 := condF hc2 h1
  refine C_ex 0 ?_
  refine E_hk [] ?_
  obtain rfl := Option.some.inj h1
  obtain rfl : _ = rr0 := ho0
  replace h0 : step_May_j1  = some r := h0
  exact E_done (thenA_exit (thenA_exit (blockA_hit (thenA_normal (⟨rfl, .eq (by kernel_rfl), hO, h0⟩)))))

theorem w_edge_May (l0 : (List api_Edge)) (r : Bool) (h0 : s_edge_May l0 = some r) : Fine Try.prog 25 [(eL e_api_Edge l0)] (eBool r) := by
  intro H0
  refine F_walk Try.func25 (by kernel_rfl) (by kernel_rfl) (by kernel_rfl) ?_
  have hO := Owns.start H0
  unfold s_edge_May at h0
  refine C_sq ?_
  refine C_rg ttOk 1 ?_
  refine R_al ?_
  refine E_tn [(0, (eL e_api_Edge l0))] ?_
  refine C_sq ?_
  refine C_rg ttOk 3 ?_
  refine R_pu 1 ?_
  obtain ⟨x1, hx2, h0⟩ := bindE h0
  refine R_cO 49 [(eL e_api_Edge l0), (.fn (.func 51) [] [])] (eBool x1) (w_edge_each l0 51 [] [] (fun y0 => s_step_May y0) (fun y0 r h => w_step_May y0 r h) _ hx2) hO ?_
  intro H hO
  refine R_al ?_
  refine E_tn [(2, (eBool x1))] ?_
  refine C_rt ?_
  refine E_hk [(2, (eBool x1))] ?_
  obtain rfl := Option.some.inj h0
  exact E_done (Q_ret (x := (eBool x1)) (by kernel_rfl) (SubV.refl _) ⟨rfl, hO.out⟩)

theorem w_step_Least (f0 : (List api_Jump)) (r : Int) (h0 : s_step_Least f0 = some r) : Fine Try.prog 52 [(eL e_api_Jump f0)] (eInt .i64 r) := by
  intro H0
  refine F_walk Try.func52 (by kernel_rfl) (by kernel_rfl) (by kernel_rfl) ?_
  have hO := Owns.start H0
  unfold s_step_Least at h0
  refine C_sq ?_
  refine C_rg ttOk 1 ?_
  refine R_al ?_
  refine E_tn [(0, (eL e_api_Jump f0))] ?_
  refine C_sq ?_
  refine C_sq ?_
  refine C_rg ttOk 8 ?_
  refine R_pu 1 ?_
  obtain ⟨x1, hx2, h0⟩ := bindE h0
  refine R_cO 51 [(eL e_api_Jump f0)] (eBool x1) (w_step_May f0 _ hx2) hO ?_
  intro H hO
  refine R_al ?_
  refine E_tn [(0, (eL e_api_Jump f0)), (14, (eBool ((!x1) || (decide (((List.length f0 : Nat) : Int) = (0 : Int))))))] ?_
  refine C_cn ((!x1) || (decide (((List.length f0 : Nat) : Int) = (0 : Int)))) (fun hc4 => ?_) (fun hc4 => ?_)
  · replace h0 := condT hc4 h0
    refine C_sq ?_
    refine C_rg ttOk 1 ?_
    refine R_al ?_
    refine E_tn [(2, (eInt .i64 (0 : Int)))] ?_
    refine C_rt ?_
    refine E_hk [(2, (eInt .i64 (0 : Int)))] ?_
    obtain rfl := Option.some.inj h0
    exact E_done (thenA_ret (Q_ret (x := (eInt .i64 (0 : Int))) (by kernel_rfl) (SubV.refl _) ⟨rfl, hO.out⟩))
  replace h0 := condF hc4 h0
  refine C_sk ?_
  refine E_tn [(0, (eL e_api_Jump f0))] ?_
  refine C_sq ?_
  refine C_rg ttOk 2 ?_
  refine R_al ?_
  refine E_tn [(0, (eL e_api_Jump f0)), (3, (eInt .i64 (0 : Int))), (4, (eInt .i64 (0 : Int)))] ?_
  refine C_seqJ (by kernel_rfl) (fun T H => ∃ v3 : Int, ∃ least4 : Int, Has T [(0, (eL e_api_Jump f0)), (3, (eInt .i64 v3)), (4, (eInt .i64 least4))] ∧ Owns ⟨H0, [], []⟩ H [] ∧ step_Least_j1 f0 v3 least4 = some r) ?_ ?_
  · clear hO h0
    rintro T H ⟨v3, least4, hT, hO, h0⟩
    refine C_has hT ?_
    clear hT
    unfold step_Least_j1 at h0
    refine C_seqJ (by kernel_rfl) (fun T H => ∃ least4 : Int, Has T [(4, (eInt .i64 least4))] ∧ Owns ⟨H0, [], []⟩ H [] ∧ step_Least_j2 least4 = some r) ?_ ?_
    · clear hO h0
      rintro T H ⟨least4, hT, hO, h0⟩
      refine C_has hT ?_
      clear hT
      unfold step_Least_j2 at h0
      refine C_sq ?_
      refine C_rg ttOk 2 ?_
      refine R_al ?_
      refine E_tn [(2, (eInt .i64 least4))] ?_
      refine C_rt ?_
      refine E_hk [(2, (eInt .i64 least4))] ?_
      obtain rfl := Option.some.inj h0
      exact E_done (Q_ret (x := (eInt .i64 least4)) (by kernel_rfl) (SubV.refl _) ⟨rfl, hO.out⟩)
    refine C_sq ?_
    refine C_rg ttOk 3 ?_
    refine R_al ?_
    refine E_tn [(3, (eInt .i64 v3)), (4, (eInt .i64 least4)), (24, (eL e_api_Jump f0)), (25, (eInt .i64 ((List.length f0 : Nat) : Int))), (26, (eInt .i64 (0 : Int)))] ?_
    refine C_bk 0 ?_
    refine C_hk [(3, (eInt .i64 v3)), (4, (eInt .i64 least4)), (24, (eL e_api_Jump f0)), (25, (eInt .i64 ((List.length f0 : Nat) : Int))), (26, (eInt .i64 (0 : Int)))] ?_
    refine C_cut (fun T H => ∃ v3 : Int, ∃ least4 : Int, ∃ t24 : (List api_Jump), ∃ t25 : Int, ∃ t26 : Int, Has T [(3, (eInt .i64 v3)), (4, (eInt .i64 least4)), (24, (eL e_api_Jump t24)), (25, (eInt .i64 t25)), (26, (eInt .i64 t26))] ∧ Owns ⟨H0, [], []⟩ H [] ∧ step_Least_h3 v3 least4 t24 t25 t26 = some r) ?_ ⟨v3, least4, f0, ((List.length f0 : Nat) : Int), (0 : Int), .eq (by kernel_rfl), hO, h0⟩
    clear hO h0
    rintro T H ⟨v3, least4, t24, t25, t26, hT, hO, h0⟩
    refine C_has hT ?_
    clear hT
    unfold step_Least_h3 at h0
    obtain ⟨rr0, hl0, h0⟩ := bindE h0
    refine C_loopS (by kernel_rfl) (fun (s : Int × Int × Int) T H => Has T [(3, (eInt .i64 s.1)), (4, (eInt .i64 s.2.1)), (24, (eL e_api_Jump t24)), (25, (eInt .i64 t25)), (26, (eInt .i64 s.2.2))] ∧ Owns ⟨H0, [], []⟩ H []) hl0 ⟨.eq (by kernel_rfl), hO⟩ ?_
    clear hO
    rintro k0 s out1 T H ⟨hT, hO⟩ h1 ho0
    obtain ⟨v3, least4, t26⟩ := s
    replace h1 : step_Least_l3 t24 t25 v3 least4 t26 = some out1 := h1
    refine C_has (l := [(3, (eInt .i64 v3)), (4, (eInt .i64 least4)), (24, (eL e_api_Jump t24)), (25, (eInt .i64 t25)), (26, (eInt .i64 t26))]) hT ?_
    clear hT
    unfold step_Least_l3 at h1
    refine C_sq ?_
    refine C_rg ttOk 1 ?_
    refine R_al ?_
    refine E_tn [(3, (eInt .i64 v3)), (4, (eInt .i64 least4)), (24, (eL e_api_Jump t24)), (25, (eInt .i64 t25)), (26, (eInt .i64 t26)), (27, (eBool (decide (t26 < t25))))] ?_
    refine C_sq ?_
    refine C_cn (decide (t26 < t25)) (fun hc5 => ?_) (fun hc5 => ?_)
    · replace h1 := condT hc5 h1
      refine C_sk ?_
      refine E_tn [(3, (eInt .i64 v3)), (4, (eInt .i64 least4)), (24, (eL e_api_Jump t24)), (25, (eInt .i64 t25)), (26, (eInt .i64 t26))] ?_
      refine C_sq ?_
      refine C_bk 1 ?_
      refine C_sq ?_
      refine C_rg ttOk 4 ?_
      obtain ⟨c6, h1⟩ := asrtE h1
      refine R_pure 2 (by kernel_rfl) (Ds := [0 ≤ t26 ∧ t26 < ((List.length t24 : Nat) : Int)]) (by kernel_rfl) ⟨c6, trivial⟩ ?_
      refine R_allocO 2 (e_api_Jump (api_Jump.mk 0 0)) (by kernel_rfl) (by kernel_rfl) hO ?_
      intro lo7 H hO
      refine R_storeOL 0 lo7 2 0 (e_api_Jump (api_Jump.mk 0 0)) (e_api_Jump (List.getD t24 (Int.toNat t26) default)) [(e_api_Jump (api_Jump.mk 0 0))] [(lo7, 2, [(e_api_Jump (List.getD t24 (Int.toNat t26) default))])] (by kernel_rfl) (by kernel_rfl) (by kernel_rfl) hO (by kernel_rfl) rfl (by kernel_rfl) ?_
      intro H hO
      refine R_en ?_
      refine E_tn [(3, (eInt .i64 v3)), (4, (eInt .i64 least4)), (6, (.lp lo7 0 0)), (24, (eL e_api_Jump t24)), (25, (eInt .i64 t25)), (26, (eInt .i64 t26))] ?_
      refine C_sq ?_
      refine C_rg ttOk 5 ?_
      refine R_pu 2 ?_
      refine R_loadO [] 0 lo7 2 0 (e_api_Jump (List.getD t24 (Int.toNat t26) default)) (eInt .i64 ((List.getD t24 (Int.toNat t26) default).Net)) [(e_api_Jump (List.getD t24 (Int.toNat t26) default))] (by kernel_rfl) (by kernel_rfl) hO (by kernel_rfl) true (by kernel_rfl) (fun _ => rfl) ?_
      refine R_al ?_
      refine E_hk [(3, (eInt .i64 (IntKind.i64.wrap (v3 + ((List.getD t24 (Int.toNat t26) default).Net))))), (4, (eInt .i64 least4)), (24, (eL e_api_Jump t24)), (25, (eInt .i64 t25)), (26, (eInt .i64 t26))] ?_
      replace hO := hO.pick (L' := []) [] (by decide) (by kernel_rfl)
      refine E_done (thenA_normal (?_))
      refine C_rg ttOk 4 ?_
      refine R_al ?_
      refine E_hk [(3, (eInt .i64 (IntKind.i64.wrap (v3 + ((List.getD t24 (Int.toNat t26) default).Net))))), (4, (eInt .i64 (if (IntKind.i64.wrap (v3 + ((List.getD t24 (Int.toNat t26) default).Net))) < least4 then (IntKind.i64.wrap (v3 + ((List.getD t24 (Int.toNat t26) default).Net))) else least4))), (24, (eL e_api_Jump t24)), (25, (eInt .i64 t25)), (26, (eInt .i64 t26))] ?_
      refine E_done (blockA_normal (thenA_normal (?_)))
      refine C_rg ttOk 2 ?_
      refine R_al ?_
      refine E_hk [(3, (eInt .i64 (IntKind.i64.wrap (v3 + ((List.getD t24 (Int.toNat t26) default).Net))))), (4, (eInt .i64 (if (IntKind.i64.wrap (v3 + ((List.getD t24 (Int.toNat t26) default).Net))) < least4 then (IntKind.i64.wrap (v3 + ((List.getD t24 (Int.toNat t26) default).Net))) else least4))), (24, (eL e_api_Jump t24)), (25, (eInt .i64 t25)), (26, (eInt .i64 (IntKind.i64.wrap (t26 + (1 : Int)))))] ?_
      exact E_done (thenA_normal (⟨rfl, (IntKind.i64.wrap (v3 + ((List.getD t24 (Int.toNat t26) default).Net)), if (IntKind.i64.wrap (v3 + ((List.getD t24 (Int.toNat t26) default).Net))) < least4 then (IntKind.i64.wrap (v3 + ((List.getD t24 (Int.toNat t26) default).Net))) else least4, IntKind.i64.wrap (t26 + (1 : Int))), (Option.some.inj h1).symm, .eq (by kernel_rfl), hO⟩))
    replace h1 := condF hc5 h1
    refine C_ex 0 ?_
    refine E_hk [(4, (eInt .i64 least4))] ?_
    obtain rfl := Option.some.inj h1
    obtain rfl : _ = rr0 := ho0
    replace h0 : step_Least_j2 least4 = some r := h0
    exact E_done (thenA_exit (thenA_exit (blockA_hit (thenA_normal (⟨rfl, least4, .eq (by kernel_rfl), hO, h0⟩)))))
  refine C_sq ?_
  refine C_rg ttOk 5 ?_
  obtain ⟨c8, h0⟩ := asrtE h0
  refine R_all (Ds := [0 ≤ (0 : Int) ∧ (0 : Int) < ((List.length f0 : Nat) : Int)]) (by kernel_rfl) ⟨c8, trivial⟩ ?_
  refine E_tn [(0, (eL e_api_Jump f0)), (3, (eInt .i64 (0 : Int))), (4, (eInt .i64 (0 : Int))), (19, (eBool (decide (((List.getD f0 (Int.toNat (0 : Int)) default).At) = (-1 : Int)))))] ?_
  refine C_cn (decide (((List.getD f0 (Int.toNat (0 : Int)) default).At) = (-1 : Int))) (fun hc9 => ?_) (fun hc9 => ?_)
  · replace h0 := condT hc9 h0
    refine C_rg ttOk 5 ?_
    obtain ⟨c10, h0⟩ := asrtE h0
    refine R_all (Ds := [0 ≤ (0 : Int) ∧ (0 : Int) < ((List.length f0 : Nat) : Int)]) (by kernel_rfl) ⟨c10, trivial⟩ ?_
    refine E_hk [(0, (eL e_api_Jump f0)), (3, (eInt .i64 (0 : Int))), (4, (eInt .i64 ((List.getD f0 (Int.toNat (0 : Int)) default).Net)))] ?_
    exact E_done (thenA_normal (⟨rfl, (0 : Int), (List.getD f0 (Int.toNat (0 : Int)) default).Net, .eq (by kernel_rfl), hO, h0⟩))
  replace h0 := condF hc9 h0
  refine C_sk ?_
  refine E_hk [(0, (eL e_api_Jump f0)), (3, (eInt .i64 (0 : Int))), (4, (eInt .i64 (0 : Int)))] ?_
  exact E_done (thenA_normal (⟨rfl, (0 : Int), (0 : Int), .eq (by kernel_rfl), hO, h0⟩))

theorem w_edge_Table_1 (f0 : (List api_Jump)) (r : Bool) (h0 : s_edge_Table_1 f0 = some r) : Fine Try.prog 50 [(eL e_api_Jump f0)] (eBool r) := by
  intro H0
  refine F_walk Try.func50 (by kernel_rfl) (by kernel_rfl) (by kernel_rfl) ?_
  have hO := Owns.start H0
  unfold s_edge_Table_1 at h0
  refine C_sq ?_
  refine C_rg ttOk 1 ?_
  refine R_al ?_
  refine E_tn [(0, (eL e_api_Jump f0))] ?_
  refine C_sq ?_
  refine C_rg ttOk 8 ?_
  refine R_pu 1 ?_
  obtain ⟨x1, hx2, h0⟩ := bindE h0
  refine R_cO 51 [(eL e_api_Jump f0)] (eBool x1) (w_step_May f0 _ hx2) hO ?_
  intro H hO
  refine R_pu 4 ?_
  obtain ⟨x4, hx5, h0⟩ := bindE h0
  refine R_callO [(5, true)] 52 [(eL e_api_Jump f0)] (eInt .i64 x4) x1 (by kernel_rfl) (by kernel_rfl) (by kernel_rfl) (fun hb6 => (w_step_Least f0 _ (gcallE hx5 hb6))) hO ?_
  intro H hO
  refine R_al ?_
  refine E_tn [(2, (eBool (x1 && (decide ((0 : Int) ≤ x4)))))] ?_
  refine C_rt ?_
  refine E_hk [(2, (eBool (x1 && (decide ((0 : Int) ≤ x4)))))] ?_
  obtain rfl := Option.some.inj h0
  exact E_done (Q_ret (x := (eBool (x1 && (decide ((0 : Int) ≤ x4))))) (by kernel_rfl) (SubV.refl _) ⟨rfl, hO.out⟩)

theorem w_edge_Table (l0 : (List api_Edge)) (r : Bool) (h0 : s_edge_Table l0 = some r) : Fine Try.prog 17 [(eL e_api_Edge l0)] (eBool r) := by
  intro H0
  refine F_walk Try.func17 (by kernel_rfl) (by kernel_rfl) (by kernel_rfl) ?_
  have hO := Owns.start H0
  unfold s_edge_Table at h0
  refine C_sq ?_
  refine C_rg ttOk 1 ?_
  refine R_al ?_
  refine E_tn [(0, (eL e_api_Edge l0))] ?_
  refine C_sq ?_
  refine C_rg ttOk 3 ?_
  refine R_pu 1 ?_
  obtain ⟨x1, hx2, h0⟩ := bindE h0
  refine R_cO 49 [(eL e_api_Edge l0), (.fn (.func 50) [] [])] (eBool x1) (w_edge_each l0 50 [] [] (fun y0 => s_edge_Table_1 y0) (fun y0 r h => w_edge_Table_1 y0 r h) _ hx2) hO ?_
  intro H hO
  refine R_al ?_
  refine E_tn [(2, (eBool x1))] ?_
  refine C_rt ?_
  refine E_hk [(2, (eBool x1))] ?_
  obtain rfl := Option.some.inj h0
  exact E_done (Q_ret (x := (eBool x1)) (by kernel_rfl) (SubV.refl _) ⟨rfl, hO.out⟩)

theorem w_slices_IndexFunc_api_Edge_api_Edge (s0 : (List api_Edge)) (f1_f : Nat) (f1_a f1_c : List V) (f1 : api_Edge → Option Bool) (f1_h : ∀ a0 r, f1 a0 = some r → Fine Try.prog f1_f (f1_a ++ [(e_api_Edge a0)] ++ f1_c) (eBool r)) (r : Int) (h0 : s_slices_IndexFunc_api_Edge_api_Edge s0 f1 = some r) : Fine Try.prog 86 [(eL e_api_Edge s0), (.fn (.func f1_f) f1_a f1_c)] (eInt .i64 r) := by
  intro H0
  refine F_walk Try.func86 (by kernel_rfl) (by kernel_rfl) (by kernel_rfl) ?_
  have hO := Owns.start H0
  unfold s_slices_IndexFunc_api_Edge_api_Edge at h0
  refine C_sq ?_
  refine C_rg ttOk 1 ?_
  refine R_al ?_
  refine E_tn [(0, (eL e_api_Edge s0)), (1, (.fn (.func f1_f) f1_a f1_c))] ?_
  refine C_seqJ (by kernel_rfl) (fun T H => Has T [] ∧ Owns ⟨H0, [], []⟩ H [] ∧ slices_IndexFunc_api_Edge_api_Edge_j1 f1  = some r) ?_ ?_
  · clear hO h0
    rintro T H ⟨hT, hO, h0⟩
    refine C_has hT ?_
    clear hT
    unfold slices_IndexFunc_api_Edge_api_Edge_j1 at h0
    refine C_sq ?_
    refine C_rg ttOk 1 ?_
    refine R_al ?_
    refine E_tn [(4, (eInt .i64 (-1 : Int)))] ?_
    refine C_rt ?_
    refine E_hk [(4, (eInt .i64 (-1 : Int)))] ?_
    obtain rfl := Option.some.inj h0
    exact E_done (Q_ret (x := (eInt .i64 (-1 : Int))) (by kernel_rfl) (SubV.refl _) ⟨rfl, hO.out⟩)
  refine C_sq ?_
  refine C_rg ttOk 3 ?_
  refine R_al ?_
  refine E_tn [(0, (eL e_api_Edge s0)), (1, (.fn (.func f1_f) f1_a f1_c)), (7, (eInt .i64 ((List.length s0 : Nat) : Int))), (8, (eInt .i64 (0 : Int)))] ?_
  refine C_bk 0 ?_
  refine C_hk [(0, (eL e_api_Edge s0)), (1, (.fn (.func f1_f) f1_a f1_c)), (7, (eInt .i64 ((List.length s0 : Nat) : Int))), (8, (eInt .i64 (0 : Int)))] ?_
  refine C_cut (fun T H => ∃ t7 : Int, ∃ t8 : Int, Has T [(0, (eL e_api_Edge s0)), (1, (.fn (.func f1_f) f1_a f1_c)), (7, (eInt .i64 t7)), (8, (eInt .i64 t8))] ∧ Owns ⟨H0, [], []⟩ H [] ∧ slices_IndexFunc_api_Edge_api_Edge_h2 f1 s0 t7 t8 = some r) ?_ ⟨((List.length s0 : Nat) : Int), (0 : Int), .eq (by kernel_rfl), hO, h0⟩
  clear hO h0
  rintro T H ⟨t7, t8, hT, hO, h0⟩
  refine C_has hT ?_
  clear hT
  unfold slices_IndexFunc_api_Edge_api_Edge_h2 at h0
  obtain ⟨rr0, hl0, h0⟩ := bindE h0
  refine C_loopS (by kernel_rfl) (fun (s : Int) T H => Has T [(0, (eL e_api_Edge s0)), (1, (.fn (.func f1_f) f1_a f1_c)), (7, (eInt .i64 t7)), (8, (eInt .i64 s))] ∧ Owns ⟨H0, [], []⟩ H []) hl0 ⟨.eq (by kernel_rfl), hO⟩ ?_
  clear hO
  rintro k0 s out1 T H ⟨hT, hO⟩ h1 ho0
  obtain ⟨t8, rfl⟩ : ∃ x, x = s := ⟨_, rfl⟩
  replace h1 : slices_IndexFunc_api_Edge_api_Edge_l2 f1 s0 t7 t8 = some out1 := h1
  refine C_has (l := [(0, (eL e_api_Edge s0)), (1, (.fn (.func f1_f) f1_a f1_c)), (7, (eInt .i64 t7)), (8, (eInt .i64 t8))]) hT ?_
  clear hT
  unfold slices_IndexFunc_api_Edge_api_Edge_l2 at h1
  refine C_sq ?_
  refine C_rg ttOk 1 ?_
  refine R_al ?_
  refine E_tn [(0, (eL e_api_Edge s0)), (1, (.fn (.func f1_f) f1_a f1_c)), (7, (eInt .i64 t7)), (8, (eInt .i64 t8)), (9, (eBool (decide (t8 < t7))))] ?_
  refine C_sq ?_
  refine C_cn (decide (t8 < t7)) (fun hc1 => ?_) (fun hc1 => ?_)
  · replace h1 := condT hc1 h1
    refine C_sk ?_
    refine E_tn [(0, (eL e_api_Edge s0)), (1, (.fn (.func f1_f) f1_a f1_c)), (7, (eInt .i64 t7)), (8, (eInt .i64 t8))] ?_
    refine C_sq ?_
    refine C_bk 1 ?_
    refine C_sq ?_
    refine C_rg ttOk 2 ?_
    refine R_al ?_
    refine E_tn [(0, (eL e_api_Edge s0)), (1, (.fn (.func f1_f) f1_a f1_c)), (5, (eInt .i64 t8)), (7, (eInt .i64 t7)), (8, (eInt .i64 t8))] ?_
    refine C_sq ?_
    refine C_rg ttOk 6 ?_
    obtain ⟨c2, h1⟩ := asrtE h1
    refine R_pure 5 (by kernel_rfl) (Ds := [0 ≤ t8 ∧ t8 < ((List.length s0 : Nat) : Int)]) (by kernel_rfl) ⟨c2, trivial⟩ ?_
    obtain ⟨x3, hx4, h1⟩ := bindE h1
    refine R_cO f1_f (f1_a ++ [(e_api_Edge (List.getD s0 (Int.toNat t8) default))] ++ f1_c) (eBool x3) (f1_h (List.getD s0 (Int.toNat t8) default) _ hx4) hO ?_
    intro H hO
    refine R_en ?_
    refine E_tn [(0, (eL e_api_Edge s0)), (1, (.fn (.func f1_f) f1_a f1_c)), (5, (eInt .i64 t8)), (7, (eInt .i64 t7)), (8, (eInt .i64 t8)), (16, (eBool x3))] ?_
    refine C_cn (x3) (fun hc6 => ?_) (fun hc6 => ?_)
    · replace h1 := condT hc6 h1
      refine C_sq ?_
      refine C_rg ttOk 2 ?_
      refine R_al ?_
      refine E_tn [(4, (eInt .i64 t8))] ?_
      refine C_rt ?_
      refine E_hk [(4, (eInt .i64 t8))] ?_
      obtain rfl := Option.some.inj h1
      obtain rfl : _ = rr0 := ho0
      replace h0 : some t8 = some r := h0
      obtain rfl := Option.some.inj h0
      exact E_done (blockA_ret (thenA_ret (thenA_ret (blockA_ret (thenA_ret (Q_ret (x := (eInt .i64 t8)) (by kernel_rfl) (SubV.refl _) ⟨rfl, hO.out⟩))))))
    replace h1 := condF hc6 h1
    refine C_sk ?_
    refine E_hk [(0, (eL e_api_Edge s0)), (1, (.fn (.func f1_f) f1_a f1_c)), (7, (eInt .i64 t7)), (8, (eInt .i64 t8))] ?_
    refine E_done (blockA_normal (thenA_normal (?_)))
    refine C_rg ttOk 2 ?_
    refine R_al ?_
    refine E_hk [(0, (eL e_api_Edge s0)), (1, (.fn (.func f1_f) f1_a f1_c)), (7, (eInt .i64 t7)), (8, (eInt .i64 (IntKind.i64.wrap (t8 + (1 : Int)))))] ?_
    exact E_done (thenA_normal (⟨rfl, IntKind.i64.wrap (t8 + (1 : Int)), (Option.some.inj h1).symm, .eq (by kernel_rfl), hO⟩))
  replace h1 := condF hc1 h1
  refine C_ex 0 ?_
  refine E_hk [] ?_
  obtain rfl := Option.some.inj h1
  obtain rfl : _ = rr0 := ho0
  replace h0 : slices_IndexFunc_api_Edge_api_Edge_j1 f1  = some r := h0
  exact E_done (thenA_exit (thenA_exit (blockA_hit (thenA_normal (⟨rfl, .eq (by kernel_rfl), hO, h0⟩)))))

theorem w_slices_ContainsFunc_api_Edge_api_Edge (s0 : (List api_Edge)) (f1_f : Nat) (f1_a f1_c : List V) (f1 : api_Edge → Option Bool) (f1_h : ∀ a0 r, f1 a0 = some r → Fine Try.prog f1_f (f1_a ++ [(e_api_Edge a0)] ++ f1_c) (eBool r)) (r : Bool) (h0 : s_slices_ContainsFunc_api_Edge_api_Edge s0 f1 = some r) : Fine Try.prog 53 [(eL e_api_Edge s0), (.fn (.func f1_f) f1_a f1_c)] (eBool r) := by
  intro H0
  refine F_walk Try.func53 (by kernel_rfl) (by kernel_rfl) (by kernel_rfl) ?_
  have hO := Owns.start H0
  unfold s_slices_ContainsFunc_api_Edge_api_Edge at h0
  refine C_sq ?_
  refine C_rg ttOk 1 ?_
  refine R_al ?_
  refine E_tn [(0, (eL e_api_Edge s0)), (1, (.fn (.func f1_f) f1_a f1_c))] ?_
  refine C_sq ?_
  refine C_rg ttOk 5 ?_
  refine R_pu 2 ?_
  obtain ⟨x1, hx2, h0⟩ := bindE h0
  refine R_cO 86 [(eL e_api_Edge s0), (.fn (.func f1_f) f1_a f1_c)] (eInt .i64 x1) (w_slices_IndexFunc_api_Edge_api_Edge s0 f1_f f1_a f1_c f1 f1_h _ hx2) hO ?_
  intro H hO
  refine R_al ?_
  refine E_tn [(4, (eBool (decide ((0 : Int) ≤ x1))))] ?_
  refine C_rt ?_
  refine E_hk [(4, (eBool (decide ((0 : Int) ≤ x1))))] ?_
  obtain rfl := Option.some.inj h0
  exact E_done (Q_ret (x := (eBool (decide ((0 : Int) ≤ x1)))) (by kernel_rfl) (SubV.refl _) ⟨rfl, hO.out⟩)

theorem w_edge_Norm_1 (x0 : api_Edge) (r : Bool) (h0 : s_edge_Norm_1 x0 = some r) : Fine Try.prog 54 [(e_api_Edge x0)] (eBool r) := by
  intro H0
  refine F_walk Try.func54 (by kernel_rfl) (by kernel_rfl) (by kernel_rfl) ?_
  have hO := Owns.start H0
  unfold s_edge_Norm_1 at h0
  refine C_sq ?_
  refine C_rg ttOk 2 ?_
  refine R_boxF 3 (e_api_Edge x0) (by kernel_rfl) (by kernel_rfl) ?_
  refine R_al ?_
  refine E_tn [(1, (.rp (e_api_Edge x0)))] ?_
  refine C_sq ?_
  refine C_rg ttOk 15 ?_
  refine R_pu 2 ?_
  obtain ⟨x1, hx2, h0⟩ := bindE h0
  refine R_cO 55 [(eL e_api_Value x0.Row)] (eBool x1) (w_row_May x0.Row _ hx2) hO ?_
  intro H hO
  refine R_al ?_
  refine E_tn [(2, (eBool (((!x1) || (decide ((1048576 : Int) < x0.Net))) || (decide (x0.Net < (-1048576 : Int))))))] ?_
  refine C_rt ?_
  refine E_hk [(2, (eBool (((!x1) || (decide ((1048576 : Int) < x0.Net))) || (decide (x0.Net < (-1048576 : Int))))))] ?_
  obtain rfl := Option.some.inj h0
  exact E_done (Q_ret (x := (eBool (((!x1) || (decide ((1048576 : Int) < x0.Net))) || (decide (x0.Net < (-1048576 : Int)))))) (by kernel_rfl) (SubV.refl _) ⟨rfl, hO.out⟩)

theorem w_edge_Norm_2 (x0 : api_Edge) (r : Bool) (h0 : s_edge_Norm_2 x0 = some r) : Fine Try.prog 56 [(e_api_Edge x0)] (eBool r) := by
  intro H0
  refine F_walk Try.func56 (by kernel_rfl) (by kernel_rfl) (by kernel_rfl) ?_
  have hO := Owns.start H0
  unfold s_edge_Norm_2 at h0
  refine C_sq ?_
  refine C_rg ttOk 2 ?_
  refine R_boxF 3 (e_api_Edge x0) (by kernel_rfl) (by kernel_rfl) ?_
  refine R_al ?_
  refine E_tn [(1, (.rp (e_api_Edge x0)))] ?_
  refine C_sq ?_
  refine C_rg ttOk 9 ?_
  refine R_al ?_
  refine E_tn [(2, (eBool ((decide (x0.At < (-1 : Int))) || (decide ((1125899906842624 : Int) < x0.At)))))] ?_
  refine C_rt ?_
  refine E_hk [(2, (eBool ((decide (x0.At < (-1 : Int))) || (decide ((1125899906842624 : Int) < x0.At)))))] ?_
  obtain rfl := Option.some.inj h0
  exact E_done (Q_ret (x := (eBool ((decide (x0.At < (-1 : Int))) || (decide ((1125899906842624 : Int) < x0.At))))) (by kernel_rfl) (SubV.refl _) ⟨rfl, hO.out⟩)

theorem w_slices_Clone_api_Edge_api_Edge (s0 : (List api_Edge)) (r : (List api_Edge)) (h0 : s_slices_Clone_api_Edge_api_Edge s0 = some r) : FineO Try.prog 57 [(eL e_api_Edge s0)] (fun lo => (.msl 3 lo 0 (List.length r))) 3 (List.map e_api_Edge r) := by
  intro H0
  refine F_walk Try.func57 (by kernel_rfl) (by kernel_rfl) (by kernel_rfl) ?_
  have hO := Owns.start H0
  unfold s_slices_Clone_api_Edge_api_Edge at h0
  refine C_sq ?_
  refine C_rg ttOk 1 ?_
  refine R_al ?_
  refine E_tn [(0, (eL e_api_Edge s0))] ?_
  refine C_sq ?_
  refine C_sq ?_
  refine C_rg ttOk 2 ?_
  refine R_pu 1 ?_
  refine R_nil false (List.length s0) (fun i => e_api_Edge (List.getD s0 i default)) (by kernel_rfl) (by kernel_rfl) ?_
  intro b1 hn2
  refine R_en ?_
  refine E_tn [(0, (eL e_api_Edge s0)), (4, (eBool b1))] ?_
  refine C_cn (b1) (fun hc3 => ?_) (fun hc3 => ?_)
  · replace h0 : some ([] : List api_Edge) = some r := by
      have hl := List.eq_nil_of_length_eq_zero (hn2 hc3)
      rw [hl] at h0
      exact (asrtE h0).2
    refine C_sq ?_
    refine C_rg ttOk 1 ?_
    refine R_al ?_
    refine E_tn [(2, (.sl true 0 (fun _ => .bad)))] ?_
    refine C_rt ?_
    refine E_hk [(2, (.sl true 0 (fun _ => .bad)))] ?_
    refine E_ownO (el := (fun _ => .bad)) 0 2 3 hO (by kernel_rfl) ?_
    intro lo4 H5 hO
    obtain rfl := Option.some.inj h0
    exact E_done (thenA_ret (Q_ret (x := (.msl 3 lo4 0 (List.length ([] : List api_Edge)))) (by kernel_rfl) (SubV.refl _) ⟨lo4, rfl, hO⟩))
  · refine C_sk ?_
    refine E_tn [(0, (eL e_api_Edge s0))] ?_
    refine C_sq ?_
    refine C_rg ttOk 4 ?_
    refine R_bsl (xs := []) (k := 3) (by kernel_rfl) (by kernel_rfl) ?_
    refine R_pu 2 ?_
    obtain ⟨c7, h0⟩ := asrtE h0
    refine R_appNL (e := e_api_Edge) s0 (fun _ => .bad) 3 40 (eL e_api_Edge s0) (fun lo6 => [(lo6, 3, List.map e_api_Edge s0)]) (by kernel_rfl) (by kernel_rfl) hO (appX_eL (fun _ => by kernel_rfl)) c7 (fun _ => by kernel_rfl) ?_
    intro lo6 H hO
    refine R_al ?_
    refine E_tn [(2, (.msl 3 lo6 0 (List.length s0)))] ?_
    refine C_rt ?_
    refine E_hk [(2, (.msl 3 lo6 0 (List.length s0)))] ?_
    obtain rfl := Option.some.inj h0
    exact E_done (Q_ret (x := (.msl 3 lo6 0 (List.length s0))) (by kernel_rfl) (SubV.refl _) ⟨lo6, rfl, hO⟩)

theorem w_slices_insertionSortCmpFunc_api_Edge (lo0p : Nat) (data0 : (List api_Edge)) (a1 : Int) (b2 : Int) (cmp3_f : Nat) (cmp3_a cmp3_c : List V) (cmp3 : api_Edge → api_Edge → Option Int) (cmp3_h : ∀ a0 a1 r, cmp3 a0 a1 = some r → Fine Try.prog cmp3_f (cmp3_a ++ [(e_api_Edge a0), (e_api_Edge a1)] ++ cmp3_c) (eInt .i64 r)) (r : List api_Edge) (h0 : s_slices_insertionSortCmpFunc_api_Edge data0 a1 b2 cmp3 = some r) : FineI Try.prog 112 lo0p 3 (List.map e_api_Edge data0) (List.map e_api_Edge r) [(.msl 3 lo0p 0 (List.length data0)), (eInt .i64 a1), (eInt .i64 b2), (.fn (.func cmp3_f) cmp3_a cmp3_c)] (.tup []) := by
  intro H0 hl0
  refine F_walk Try.func112 (by kernel_rfl) (by kernel_rfl) (by kernel_rfl) ?_
  have hO := Owns.start1 hl0
  clear hl0
  obtain ⟨N0, hN0⟩ : ∃ n, n = List.length data0 := ⟨_, rfl⟩
  have hN : List.length data0 = N0 := hN0.symm
  unfold s_slices_insertionSortCmpFunc_api_Edge at h0
  refine C_sq ?_
  refine C_rg ttOk 3 ?_
  refine R_al ?_
  refine E_tn [(0, (.msl 3 lo0p 0 (List.length data0))), (1, (eInt .i64 a1)), (2, (eInt .i64 b2)), (3, (.fn (.func cmp3_f) cmp3_a cmp3_c)), (8, (eInt .i64 (IntKind.i64.wrap (a1 + (1 : Int)))))] ?_
  refine C_bk 0 ?_
  refine C_hk [(0, (.msl 3 lo0p 0 (List.length data0))), (1, (eInt .i64 a1)), (2, (eInt .i64 b2)), (3, (.fn (.func cmp3_f) cmp3_a cmp3_c)), (8, (eInt .i64 (IntKind.i64.wrap (a1 + (1 : Int)))))] ?_
  refine C_cut (fun T H => ∃ data0 : List api_Edge, ∃ i8 : Int, Has T [(0, (.msl 3 lo0p 0 (List.length data0))), (1, (eInt .i64 a1)), (2, (eInt .i64 b2)), (3, (.fn (.func cmp3_f) cmp3_a cmp3_c)), (8, (eInt .i64 i8))] ∧ Owns ⟨H0, [lo0p], []⟩ H [(lo0p, 3, List.map e_api_Edge data0)] ∧ List.length data0 = N0 ∧ slices_insertionSortCmpFunc_api_Edge_h1 cmp3 data0 a1 b2 i8 = some r) ?_ ⟨data0, IntKind.i64.wrap (a1 + (1 : Int)), .eq (by kernel_rfl), hO, hN, h0⟩
  clear hO hN h0
  rintro T H ⟨data0, i8, hT, hO, hN, h0⟩
  refine C_has hT ?_
  clear hT
  unfold slices_insertionSortCmpFunc_api_Edge_h1 at h0
  obtain ⟨rr0, hl0, h0⟩ := bindE h0
  refine C_loopS (by kernel_rfl) (fun (s : List api_Edge × Int) T H => Has T [(0, (.msl 3 lo0p 0 (List.length s.1))), (1, (eInt .i64 a1)), (2, (eInt .i64 b2)), (3, (.fn (.func cmp3_f) cmp3_a cmp3_c)), (8, (eInt .i64 s.2))] ∧ Owns ⟨H0, [lo0p], []⟩ H [(lo0p, 3, List.map e_api_Edge s.1)] ∧ List.length s.1 = N0) hl0 ⟨.eq (by kernel_rfl), hO, hN⟩ ?_
  clear hO hN
  rintro k0 s out1 T H ⟨hT, hO, hN⟩ h1 ho0
  obtain ⟨data0, i8⟩ := s
  replace h1 : slices_insertionSortCmpFunc_api_Edge_l1 cmp3 a1 b2 data0 i8 = some out1 := h1
  refine C_has (l := [(0, (.msl 3 lo0p 0 (List.length data0))), (1, (eInt .i64 a1)), (2, (eInt .i64 b2)), (3, (.fn (.func cmp3_f) cmp3_a cmp3_c)), (8, (eInt .i64 i8))]) hT ?_
  clear hT
  unfold slices_insertionSortCmpFunc_api_Edge_l1 at h1
  refine C_sq ?_
  refine C_sq ?_
  refine C_rg ttOk 3 ?_
  refine R_al ?_
  refine E_tn [(0, (.msl 3 lo0p 0 (List.length data0))), (1, (eInt .i64 a1)), (2, (eInt .i64 b2)), (3, (.fn (.func cmp3_f) cmp3_a cmp3_c)), (8, (eInt .i64 i8)), (14, (eBool (decide (i8 < b2))))] ?_
  refine C_cn (decide (i8 < b2)) (fun hc1 => ?_) (fun hc1 => ?_)
  · replace h1 := condT hc1 h1
    refine C_sk ?_
    refine E_tn [(0, (.msl 3 lo0p 0 (List.length data0))), (1, (eInt .i64 a1)), (2, (eInt .i64 b2)), (3, (.fn (.func cmp3_f) cmp3_a cmp3_c)), (8, (eInt .i64 i8))] ?_
    refine C_seqJ (by kernel_rfl) (fun T H => ∃ data0 : List api_Edge, Has T [(0, (.msl 3 lo0p 0 (List.length data0))), (1, (eInt .i64 a1)), (2, (eInt .i64 b2)), (3, (.fn (.func cmp3_f) cmp3_a cmp3_c)), (8, (eInt .i64 i8))] ∧ Owns ⟨H0, [lo0p], []⟩ H [(lo0p, 3, List.map e_api_Edge data0)] ∧ List.length data0 = N0 ∧ slices_insertionSortCmpFunc_api_Edge_j2 cmp3 data0 a1 b2 i8 = some out1) ?_ ?_
    · clear hO hN h1
      rintro T H ⟨data0, hT, hO, hN, h1⟩
      refine C_has hT ?_
      clear hT
      unfold slices_insertionSortCmpFunc_api_Edge_j2 at h1
      refine C_rg ttOk 3 ?_
      refine R_al ?_
      refine E_hk [(0, (.msl 3 lo0p 0 (List.length data0))), (1, (eInt .i64 a1)), (2, (eInt .i64 b2)), (3, (.fn (.func cmp3_f) cmp3_a cmp3_c)), (8, (eInt .i64 (IntKind.i64.wrap (i8 + (1 : Int)))))] ?_
      exact E_done (thenA_normal (⟨rfl, (data0, IntKind.i64.wrap (i8 + (1 : Int))), (Option.some.inj h1).symm, .eq (by kernel_rfl), hO, hN⟩))
    refine C_bk 1 ?_
    refine C_sq ?_
    refine C_rg ttOk 2 ?_
    refine R_al ?_
    refine E_tn [(0, (.msl 3 lo0p 0 (List.length data0))), (1, (eInt .i64 a1)), (2, (eInt .i64 b2)), (3, (.fn (.func cmp3_f) cmp3_a cmp3_c)), (8, (eInt .i64 i8)), (9, (eInt .i64 i8))] ?_
    refine C_bk 2 ?_
    refine C_hk [(0, (.msl 3 lo0p 0 (List.length data0))), (1, (eInt .i64 a1)), (2, (eInt .i64 b2)), (3, (.fn (.func cmp3_f) cmp3_a cmp3_c)), (8, (eInt .i64 i8)), (9, (eInt .i64 i8))] ?_
    refine C_cut (fun T H => ∃ data0 : List api_Edge, ∃ j9 : Int, Has T [(0, (.msl 3 lo0p 0 (List.length data0))), (1, (eInt .i64 a1)), (2, (eInt .i64 b2)), (3, (.fn (.func cmp3_f) cmp3_a cmp3_c)), (8, (eInt .i64 i8)), (9, (eInt .i64 j9))] ∧ Owns ⟨H0, [lo0p], []⟩ H [(lo0p, 3, List.map e_api_Edge data0)] ∧ List.length data0 = N0 ∧ slices_insertionSortCmpFunc_api_Edge_h3 cmp3 data0 a1 b2 i8 j9 = some out1) ?_ ⟨data0, i8, .eq (by kernel_rfl), hO, hN, h1⟩
    clear hO hN h1
    rintro T H ⟨data0, j9, hT, hO, hN, h1⟩
    refine C_has hT ?_
    clear hT
    unfold slices_insertionSortCmpFunc_api_Edge_h3 at h1
    obtain ⟨rr1, hl1, h1⟩ := bindE h1
    refine C_loopS (by kernel_rfl) (fun (s : List api_Edge × Int) T H => Has T [(0, (.msl 3 lo0p 0 (List.length s.1))), (1, (eInt .i64 a1)), (2, (eInt .i64 b2)), (3, (.fn (.func cmp3_f) cmp3_a cmp3_c)), (8, (eInt .i64 i8)), (9, (eInt .i64 s.2))] ∧ Owns ⟨H0, [lo0p], []⟩ H [(lo0p, 3, List.map e_api_Edge s.1)] ∧ List.length s.1 = N0) hl1 ⟨.eq (by kernel_rfl), hO, hN⟩ ?_
    clear hO hN
    rintro k1 s out2 T H ⟨hT, hO, hN⟩ h2 ho1
    obtain ⟨data0, j9⟩ := s
    replace h2 : slices_insertionSortCmpFunc_api_Edge_l3 cmp3 a1 b2 i8 data0 j9 = some out2 := h2
    refine C_has (l := [(0, (.msl 3 lo0p 0 (List.length data0))), (1, (eInt .i64 a1)), (2, (eInt .i64 b2)), (3, (.fn (.func cmp3_f) cmp3_a cmp3_c)), (8, (eInt .i64 i8)), (9, (eInt .i64 j9))]) hT ?_
    clear hT
    unfold slices_insertionSortCmpFunc_api_Edge_l3 at h2
    refine C_sq ?_
    refine C_sq ?_
    obtain ⟨c2, h2⟩ := asrtE h2
    obtain ⟨c3, h2⟩ := asrtE h2
    obtain ⟨x4, hx5, h2⟩ := bindE h2
    refine A_cl (C_draw (pl := plOf []) ttOk (by kernel_rfl) (n := 17) (by kernel_rfl) (by kernel_rfl) (by kernel_rfl) ?_)
    refine D_mono (K := fun T H => Has (lift T) [(0, (.msl 3 lo0p 0 (List.length data0))), (1, (eInt .i64 a1)), (2, (eInt .i64 b2)), (3, (.fn (.func cmp3_f) cmp3_a cmp3_c)), (8, (eInt .i64 i8)), (9, (eInt .i64 j9)), (34, (eBool ((decide (a1 < j9)) && (decide (x4 < (0 : Int))))))] ∧ Owns ⟨H0, [lo0p], []⟩ H [(lo0p, 3, List.map e_api_Edge data0)]) ?_ ?_
    · refine D_pu 4 ?_
      refine D_split (t := 21) (e := decide (a1 < j9)) (by kernel_rfl) (fun hg6 => ?_) (fun hg6 => ?_)
      · refine D_pure 8 (by kernel_rfl) (Ds := [0 ≤ j9 ∧ j9 < ((List.length data0 : Nat) : Int)]) (by kernel_rfl) ⟨(c2 (by first | (simp only [hg6, Bool.not_true, Bool.not_false, Bool.true_and, Bool.and_true, Bool.false_and, Bool.and_false, Bool.or_true, Bool.true_or, Bool.or_false, Bool.false_or, cond_true, cond_false]; done) | simp [hg6])), trivial⟩ ?_
        refine D_loadV 0 lo0p 3 (0 + Int.toNat j9) (e_api_Edge (List.getD data0 (Int.toNat j9) default)) (e_api_Edge (List.getD data0 (Int.toNat j9) default)) (List.map e_api_Edge data0) (by kernel_rfl) (by kernel_rfl) (by kernel_rfl) hO (by kernel_rfl) (ownGet (c2 (by first | (simp only [hg6, Bool.not_true, Bool.not_false, Bool.true_and, Bool.and_true, Bool.false_and, Bool.and_false, Bool.or_true, Bool.true_or, Bool.or_false, Bool.false_or, cond_true, cond_false]; done) | simp [hg6]))) ?_
        refine D_pure 13 (by kernel_rfl) (Ds := [0 ≤ (IntKind.i64.wrap (j9 - (1 : Int))) ∧ (IntKind.i64.wrap (j9 - (1 : Int))) < ((List.length data0 : Nat) : Int)]) (by kernel_rfl) ⟨(c3 (by first | (simp only [hg6, Bool.not_true, Bool.not_false, Bool.true_and, Bool.and_true, Bool.false_and, Bool.and_false, Bool.or_true, Bool.true_or, Bool.or_false, Bool.false_or, cond_true, cond_false]; done) | simp [hg6])), trivial⟩ ?_
        refine D_loadV 0 lo0p 3 (0 + Int.toNat (IntKind.i64.wrap (j9 - (1 : Int)))) (e_api_Edge (List.getD data0 (Int.toNat (IntKind.i64.wrap (j9 - (1 : Int)))) default)) (e_api_Edge (List.getD data0 (Int.toNat (IntKind.i64.wrap (j9 - (1 : Int)))) default)) (List.map e_api_Edge data0) (by kernel_rfl) (by kernel_rfl) (by kernel_rfl) hO (by kernel_rfl) (ownGet (c3 (by first | (simp only [hg6, Bool.not_true, Bool.not_false, Bool.true_and, Bool.and_true, Bool.false_and, Bool.and_false, Bool.or_true, Bool.true_or, Bool.or_false, Bool.false_or, cond_true, cond_false]; done) | simp [hg6]))) ?_
        refine D_callV cmp3_f (cmp3_a ++ [(e_api_Edge (List.getD data0 (Int.toNat j9) default)), (e_api_Edge (List.getD data0 (Int.toNat (IntKind.i64.wrap (j9 - (1 : Int)))) default))] ++ cmp3_c) (eInt .i64 x4) (by kernel_rfl) (by kernel_rfl) (cmp3_h (List.getD data0 (Int.toNat j9) default) (List.getD data0 (Int.toNat (IntKind.i64.wrap (j9 - (1 : Int)))) default) _ (gcallE hx5 (by first | (simp only [hg6, Bool.not_true, Bool.not_false, Bool.true_and, Bool.and_true, Bool.false_and, Bool.and_false, Bool.or_true, Bool.true_or, Bool.or_false, Bool.false_or, cond_true, cond_false]; done) | simp [hg6]))) hO ?_
        intro H hO
        refine D_al ?_
        exact ⟨⟨[(0, (.msl 3 lo0p 0 (List.length data0))), (1, (eInt .i64 a1)), (2, (eInt .i64 b2)), (3, (.fn (.func cmp3_f) cmp3_a cmp3_c)), (8, (eInt .i64 i8)), (9, (eInt .i64 j9)), (34, (eBool (decide (x4 < (0 : Int)))))], by kernel_rfl, rfl, ⟨SubV.refl _, SubV.refl _, SubV.refl _, SubV.refl _, SubV.refl _, SubV.refl _, SubV.eq (by first | (simp only [eBool, hg6, Bool.not_true, Bool.not_false, Bool.true_and, Bool.and_true, Bool.false_and, Bool.and_false, Bool.or_true, Bool.true_or, Bool.or_false, Bool.false_or, cond_true, cond_false]; done) | simp [eBool, hg6]), trivial⟩⟩, hO⟩
      refine D_al ?_
      exact ⟨⟨[(0, (.msl 3 lo0p 0 (List.length data0))), (1, (eInt .i64 a1)), (2, (eInt .i64 b2)), (3, (.fn (.func cmp3_f) cmp3_a cmp3_c)), (8, (eInt .i64 i8)), (9, (eInt .i64 j9)), (34, (eBool false))], by kernel_rfl, rfl, ⟨SubV.refl _, SubV.refl _, SubV.refl _, SubV.refl _, SubV.refl _, SubV.refl _, SubV.eq (by first | (simp only [eBool, hg6, Bool.not_true, Bool.not_false, Bool.true_and, Bool.and_true, Bool.false_and, Bool.and_false, Bool.or_true, Bool.true_or, Bool.or_false, Bool.false_or, cond_true, cond_false]; done) | simp [eBool, hg6]), trivial⟩⟩, hO⟩
    · rintro T H ⟨hT, hO⟩
      refine E_has hT ?_
      clear hT
      refine E_tn [(0, (.msl 3 lo0p 0 (List.length data0))), (1, (eInt .i64 a1)), (2, (eInt .i64 b2)), (3, (.fn (.func cmp3_f) cmp3_a cmp3_c)), (8, (eInt .i64 i8)), (9, (eInt .i64 j9)), (34, (eBool ((decide (a1 < j9)) && (decide (x4 < (0 : Int))))))] ?_
      refine C_cn ((decide (a1 < j9)) && (decide (x4 < (0 : Int)))) (fun hc7 => ?_) (fun hc7 => ?_)
      · replace h2 := condT hc7 h2
        refine C_sk ?_
        refine E_tn [(0, (.msl 3 lo0p 0 (List.length data0))), (1, (eInt .i64 a1)), (2, (eInt .i64 b2)), (3, (.fn (.func cmp3_f) cmp3_a cmp3_c)), (8, (eInt .i64 i8)), (9, (eInt .i64 j9))] ?_
        refine C_sq ?_
        refine C_bk 3 ?_
        refine A_cl (C_draw (pl := plOf []) ttOk (by kernel_rfl) (n := 18) (by kernel_rfl) (by kernel_rfl) (by kernel_rfl) ?_)
        obtain ⟨c8, h2⟩ := asrtE h2
        refine D_pure 9 (by kernel_rfl) (Ds := [0 ≤ (IntKind.i64.wrap (j9 - (1 : Int))) ∧ (IntKind.i64.wrap (j9 - (1 : Int))) < ((List.length data0 : Nat) : Int)]) (by kernel_rfl) ⟨c8, trivial⟩ ?_
        refine D_loadO 0 lo0p 3 (0 + Int.toNat (IntKind.i64.wrap (j9 - (1 : Int)))) (e_api_Edge (List.getD data0 (Int.toNat (IntKind.i64.wrap (j9 - (1 : Int)))) default)) (e_api_Edge (List.getD data0 (Int.toNat (IntKind.i64.wrap (j9 - (1 : Int)))) default)) (List.map e_api_Edge data0) (by kernel_rfl) (by kernel_rfl) (by kernel_rfl) (by kernel_rfl) hO (by kernel_rfl) (ownGet c8) ?_
        obtain ⟨c9, h2⟩ := asrtE h2
        refine D_pure 13 (by kernel_rfl) (Ds := [0 ≤ j9 ∧ j9 < ((List.length data0 : Nat) : Int)]) (by kernel_rfl) ⟨c9, trivial⟩ ?_
        refine D_loadO 0 lo0p 3 (0 + Int.toNat j9) (e_api_Edge (List.getD data0 (Int.toNat j9) default)) (e_api_Edge (List.getD data0 (Int.toNat j9) default)) (List.map e_api_Edge data0) (by kernel_rfl) (by kernel_rfl) (by kernel_rfl) (by kernel_rfl) hO (by kernel_rfl) (ownGet c9) ?_
        obtain ⟨c10, h2⟩ := asrtE h2
        refine D_pure 15 (by kernel_rfl) (Ds := [0 ≤ j9 ∧ j9 < ((List.length data0 : Nat) : Int)]) (by kernel_rfl) ⟨c10, trivial⟩ ?_
        refine D_storeO 0 lo0p 3 (0 + Int.toNat j9) (e_api_Edge (List.getD data0 (Int.toNat j9) default)) (e_api_Edge (List.getD data0 (Int.toNat (IntKind.i64.wrap (j9 - (1 : Int)))) default)) (List.map e_api_Edge data0) [(lo0p, 3, List.map e_api_Edge (List.set data0 (Int.toNat j9) (List.getD data0 (Int.toNat (IntKind.i64.wrap (j9 - (1 : Int)))) default)))] (by kernel_rfl) (by kernel_rfl) (by kernel_rfl) hO (by kernel_rfl) (ownGet c10) (by simp only [List.set, ownSet]) ?_
        intro H hO
        replace hN : List.length (List.set data0 (Int.toNat j9) (List.getD data0 (Int.toNat (IntKind.i64.wrap (j9 - (1 : Int)))) default)) = N0 := by simpa using hN
        obtain ⟨c11, h2⟩ := asrtE h2
        refine D_pure 17 (by kernel_rfl) (Ds := [0 ≤ (IntKind.i64.wrap (j9 - (1 : Int))) ∧ (IntKind.i64.wrap (j9 - (1 : Int))) < ((List.length data0 : Nat) : Int)]) (by kernel_rfl) ⟨c11, trivial⟩ ?_
        refine D_storeO 0 lo0p 3 (0 + Int.toNat (IntKind.i64.wrap (j9 - (1 : Int)))) (e_api_Edge (List.getD (List.set data0 (Int.toNat j9) (List.getD data0 (Int.toNat (IntKind.i64.wrap (j9 - (1 : Int)))) default)) (Int.toNat (IntKind.i64.wrap (j9 - (1 : Int)))) default)) (e_api_Edge (List.getD data0 (Int.toNat j9) default)) (List.map e_api_Edge (List.set data0 (Int.toNat j9) (List.getD data0 (Int.toNat (IntKind.i64.wrap (j9 - (1 : Int)))) default))) [(lo0p, 3, List.map e_api_Edge (List.set (List.set data0 (Int.toNat j9) (List.getD data0 (Int.toNat (IntKind.i64.wrap (j9 - (1 : Int)))) default)) (Int.toNat (IntKind.i64.wrap (j9 - (1 : Int)))) (List.getD data0 (Int.toNat j9) default)))] (by kernel_rfl) (by kernel_rfl) (by kernel_rfl) hO (by kernel_rfl) (ownGetN c11 (by simp [])) (by simp only [List.set, ownSet]) ?_
        intro H hO
        replace hN : List.length (List.set (List.set data0 (Int.toNat j9) (List.getD data0 (Int.toNat (IntKind.i64.wrap (j9 - (1 : Int)))) default)) (Int.toNat (IntKind.i64.wrap (j9 - (1 : Int)))) (List.getD data0 (Int.toNat j9) default)) = N0 := by simpa using hN
        refine D_end (by kernel_rfl) ?_
        refine E_has (l := [(0, (.msl 3 lo0p 0 (List.length (List.set (List.set data0 (Int.toNat j9) (List.getD data0 (Int.toNat (IntKind.i64.wrap (j9 - (1 : Int)))) default)) (Int.toNat (IntKind.i64.wrap (j9 - (1 : Int)))) (List.getD data0 (Int.toNat j9) default))))), (1, (eInt .i64 a1)), (2, (eInt .i64 b2)), (3, (.fn (.func cmp3_f) cmp3_a cmp3_c)), (8, (eInt .i64 i8)), (9, (eInt .i64 j9))]) ⟨[(0, (.msl 3 lo0p 0 (List.length data0))), (1, (eInt .i64 a1)), (2, (eInt .i64 b2)), (3, (.fn (.func cmp3_f) cmp3_a cmp3_c)), (8, (eInt .i64 i8)), (9, (eInt .i64 j9))], by kernel_rfl, rfl, ⟨SubV.eq (by simp []), SubV.refl _, SubV.refl _, SubV.refl _, SubV.refl _, SubV.refl _, trivial⟩⟩ ?_
        refine E_done (blockA_normal (thenA_normal (?_)))
        refine C_rg ttOk 3 ?_
        refine R_al ?_
        refine E_hk [(0, (.msl 3 lo0p 0 (List.length (List.set (List.set data0 (Int.toNat j9) (List.getD data0 (Int.toNat (IntKind.i64.wrap (j9 - (1 : Int)))) default)) (Int.toNat (IntKind.i64.wrap (j9 - (1 : Int)))) (List.getD data0 (Int.toNat j9) default))))), (1, (eInt .i64 a1)), (2, (eInt .i64 b2)), (3, (.fn (.func cmp3_f) cmp3_a cmp3_c)), (8, (eInt .i64 i8)), (9, (eInt .i64 (IntKind.i64.wrap (j9 - (1 : Int)))))] ?_
        exact E_done (thenA_normal (⟨rfl, (List.set (List.set data0 (Int.toNat j9) (List.getD data0 (Int.toNat (IntKind.i64.wrap (j9 - (1 : Int)))) default)) (Int.toNat (IntKind.i64.wrap (j9 - (1 : Int)))) (List.getD data0 (Int.toNat j9) default), IntKind.i64.wrap (j9 - (1 : Int))), (Option.some.inj h2).symm, .eq (by kernel_rfl), hO, hN⟩))
      replace h2 := condF hc7 h2
      refine C_ex 2 ?_
      refine E_hk [(0, (.msl 3 lo0p 0 (List.length data0))), (1, (eInt .i64 a1)), (2, (eInt .i64 b2)), (3, (.fn (.func cmp3_f) cmp3_a cmp3_c)), (8, (eInt .i64 i8))] ?_
      obtain rfl := Option.some.inj h2
      obtain rfl : _ = rr1 := ho1
      replace h1 : slices_insertionSortCmpFunc_api_Edge_j2 cmp3 data0 a1 b2 i8 = some out1 := h1
      exact E_done (thenA_exit (thenA_exit (blockA_hit (blockA_normal (thenA_normal (⟨rfl, data0, .eq (by kernel_rfl), hO, hN, h1⟩))))))
  replace h1 := condF hc1 h1
  refine C_ex 0 ?_
  refine E_hk [(0, (.msl 3 lo0p 0 (List.length data0)))] ?_
  obtain rfl := Option.some.inj h1
  obtain rfl : _ = rr0 := ho0
  replace h0 : some data0 = some r := h0
  obtain rfl := Option.some.inj h0
  exact E_done (thenA_exit (thenA_exit (blockA_hit (Q_end (x := (.tup [])) (by kernel_rfl) (SubV.refl _) ⟨rfl, hO.ext, hO.at 0 (by kernel_rfl), by simp only [List.length_map]; exact hN.trans hN0⟩))))

theorem w_slices_swapRangeCmpFunc_api_Edge (lo0p : Nat) (data0 : (List api_Edge)) (a1 : Int) (b2 : Int) (n3 : Int) (cmp4_f : Nat) (cmp4_a cmp4_c : List V) (cmp4 : api_Edge → api_Edge → Option Int) (cmp4_h : ∀ a0 a1 r, cmp4 a0 a1 = some r → Fine Try.prog cmp4_f (cmp4_a ++ [(e_api_Edge a0), (e_api_Edge a1)] ++ cmp4_c) (eInt .i64 r)) (r : List api_Edge) (h0 : s_slices_swapRangeCmpFunc_api_Edge data0 a1 b2 n3 cmp4 = some r) : FineI Try.prog 123 lo0p 3 (List.map e_api_Edge data0) (List.map e_api_Edge r) [(.msl 3 lo0p 0 (List.length data0)), (eInt .i64 a1), (eInt .i64 b2), (eInt .i64 n3), (.fn (.func cmp4_f) cmp4_a cmp4_c)] (.tup []) := by
  intro H0 hl0
  refine F_walk Try.func123 (by kernel_rfl) (by kernel_rfl) (by kernel_rfl) ?_
  have hO := Owns.start1 hl0
  clear hl0
  obtain ⟨N0, hN0⟩ : ∃ n, n = List.length data0 := ⟨_, rfl⟩
  have hN : List.length data0 = N0 := hN0.symm
  unfold s_slices_swapRangeCmpFunc_api_Edge at h0
  refine C_sq ?_
  refine C_rg ttOk 1 ?_
  refine R_al ?_
  refine E_tn [(0, (.msl 3 lo0p 0 (List.length data0))), (1, (eInt .i64 a1)), (2, (eInt .i64 b2)), (3, (eInt .i64 n3)), (10, (eInt .i64 (0 : Int)))] ?_
  refine C_bk 0 ?_
  refine C_hk [(0, (.msl 3 lo0p 0 (List.length data0))), (1, (eInt .i64 a1)), (2, (eInt .i64 b2)), (3, (eInt .i64 n3)), (10, (eInt .i64 (0 : Int)))] ?_
  refine C_cut (fun T H => ∃ data0 : List api_Edge, ∃ i10 : Int, Has T [(0, (.msl 3 lo0p 0 (List.length data0))), (1, (eInt .i64 a1)), (2, (eInt .i64 b2)), (3, (eInt .i64 n3)), (10, (eInt .i64 i10))] ∧ Owns ⟨H0, [lo0p], []⟩ H [(lo0p, 3, List.map e_api_Edge data0)] ∧ List.length data0 = N0 ∧ slices_swapRangeCmpFunc_api_Edge_h1 cmp4 data0 a1 b2 n3 i10 = some r) ?_ ⟨data0, (0 : Int), .eq (by kernel_rfl), hO, hN, h0⟩
  clear hO hN h0
  rintro T H ⟨data0, i10, hT, hO, hN, h0⟩
  refine C_has hT ?_
  clear hT
  unfold slices_swapRangeCmpFunc_api_Edge_h1 at h0
  obtain ⟨rr0, hl0, h0⟩ := bindE h0
  refine C_loopS (by kernel_rfl) (fun (s : List api_Edge × Int) T H => Has T [(0, (.msl 3 lo0p 0 (List.length s.1))), (1, (eInt .i64 a1)), (2, (eInt .i64 b2)), (3, (eInt .i64 n3)), (10, (eInt .i64 s.2))] ∧ Owns ⟨H0, [lo0p], []⟩ H [(lo0p, 3, List.map e_api_Edge s.1)] ∧ List.length s.1 = N0) hl0 ⟨.eq (by kernel_rfl), hO, hN⟩ ?_
  clear hO hN
  rintro k0 s out1 T H ⟨hT, hO, hN⟩ h1 ho0
  obtain ⟨data0, i10⟩ := s
  replace h1 : slices_swapRangeCmpFunc_api_Edge_l1 cmp4 a1 b2 n3 data0 i10 = some out1 := h1
  refine C_has (l := [(0, (.msl 3 lo0p 0 (List.length data0))), (1, (eInt .i64 a1)), (2, (eInt .i64 b2)), (3, (eInt .i64 n3)), (10, (eInt .i64 i10))]) hT ?_
  clear hT
  unfold slices_swapRangeCmpFunc_api_Edge_l1 at h1
  refine C_sq ?_
  refine C_sq ?_
  refine C_rg ttOk 3 ?_
  refine R_al ?_
  refine E_tn [(0, (.msl 3 lo0p 0 (List.length data0))), (1, (eInt .i64 a1)), (2, (eInt .i64 b2)), (3, (eInt .i64 n3)), (10, (eInt .i64 i10)), (13, (eBool (decide (i10 < n3))))] ?_
  refine C_cn (decide (i10 < n3)) (fun hc1 => ?_) (fun hc1 => ?_)
  · replace h1 := condT hc1 h1
    refine C_sk ?_
    refine E_tn [(0, (.msl 3 lo0p 0 (List.length data0))), (1, (eInt .i64 a1)), (2, (eInt .i64 b2)), (3, (eInt .i64 n3)), (10, (eInt .i64 i10))] ?_
    refine C_sq ?_
    refine C_bk 1 ?_
    refine A_cl (C_draw (pl := plOf []) ttOk (by kernel_rfl) (n := 24) (by kernel_rfl) (by kernel_rfl) (by kernel_rfl) ?_)
    obtain ⟨c2, h1⟩ := asrtE h1
    refine D_pure 13 (by kernel_rfl) (Ds := [0 ≤ (IntKind.i64.wrap (b2 + i10)) ∧ (IntKind.i64.wrap (b2 + i10)) < ((List.length data0 : Nat) : Int)]) (by kernel_rfl) ⟨c2, trivial⟩ ?_
    refine D_loadO 0 lo0p 3 (0 + Int.toNat (IntKind.i64.wrap (b2 + i10))) (e_api_Edge (List.getD data0 (Int.toNat (IntKind.i64.wrap (b2 + i10))) default)) (e_api_Edge (List.getD data0 (Int.toNat (IntKind.i64.wrap (b2 + i10))) default)) (List.map e_api_Edge data0) (by kernel_rfl) (by kernel_rfl) (by kernel_rfl) (by kernel_rfl) hO (by kernel_rfl) (ownGet c2) ?_
    obtain ⟨c3, h1⟩ := asrtE h1
    refine D_pure 19 (by kernel_rfl) (Ds := [0 ≤ (IntKind.i64.wrap (a1 + i10)) ∧ (IntKind.i64.wrap (a1 + i10)) < ((List.length data0 : Nat) : Int)]) (by kernel_rfl) ⟨c3, trivial⟩ ?_
    refine D_loadO 0 lo0p 3 (0 + Int.toNat (IntKind.i64.wrap (a1 + i10))) (e_api_Edge (List.getD data0 (Int.toNat (IntKind.i64.wrap (a1 + i10))) default)) (e_api_Edge (List.getD data0 (Int.toNat (IntKind.i64.wrap (a1 + i10))) default)) (List.map e_api_Edge data0) (by kernel_rfl) (by kernel_rfl) (by kernel_rfl) (by kernel_rfl) hO (by kernel_rfl) (ownGet c3) ?_
    obtain ⟨c4, h1⟩ := asrtE h1
    refine D_pure 21 (by kernel_rfl) (Ds := [0 ≤ (IntKind.i64.wrap (a1 + i10)) ∧ (IntKind.i64.wrap (a1 + i10)) < ((List.length data0 : Nat) : Int)]) (by kernel_rfl) ⟨c4, trivial⟩ ?_
    refine D_storeO 0 lo0p 3 (0 + Int.toNat (IntKind.i64.wrap (a1 + i10))) (e_api_Edge (List.getD data0 (Int.toNat (IntKind.i64.wrap (a1 + i10))) default)) (e_api_Edge (List.getD data0 (Int.toNat (IntKind.i64.wrap (b2 + i10))) default)) (List.map e_api_Edge data0) [(lo0p, 3, List.map e_api_Edge (List.set data0 (Int.toNat (IntKind.i64.wrap (a1 + i10))) (List.getD data0 (Int.toNat (IntKind.i64.wrap (b2 + i10))) default)))] (by kernel_rfl) (by kernel_rfl) (by kernel_rfl) hO (by kernel_rfl) (ownGet c4) (by simp only [List.set, ownSet]) ?_
    intro H hO
    replace hN : List.length (List.set data0 (Int.toNat (IntKind.i64.wrap (a1 + i10))) (List.getD data0 (Int.toNat (IntKind.i64.wrap (b2 + i10))) default)) = N0 := by simpa using hN
    obtain ⟨c5, h1⟩ := asrtE h1
    refine D_pure 23 (by kernel_rfl) (Ds := [0 ≤ (IntKind.i64.wrap (b2 + i10)) ∧ (IntKind.i64.wrap (b2 + i10)) < ((List.length data0 : Nat) : Int)]) (by kernel_rfl) ⟨c5, trivial⟩ ?_
    refine D_storeO 0 lo0p 3 (0 + Int.toNat (IntKind.i64.wrap (b2 + i10))) (e_api_Edge (List.getD (List.set data0 (Int.toNat (IntKind.i64.wrap (a1 + i10))) (List.getD data0 (Int.toNat (IntKind.i64.wrap (b2 + i10))) default)) (Int.toNat (IntKind.i64.wrap (b2 + i10))) default)) (e_api_Edge (List.getD data0 (Int.toNat (IntKind.i64.wrap (a1 + i10))) default)) (List.map e_api_Edge (List.set data0 (Int.toNat (IntKind.i64.wrap (a1 + i10))) (List.getD data0 (Int.toNat (IntKind.i64.wrap (b2 + i10))) default))) [(lo0p, 3, List.map e_api_Edge (List.set (List.set data0 (Int.toNat (IntKind.i64.wrap (a1 + i10))) (List.getD data0 (Int.toNat (IntKind.i64.wrap (b2 + i10))) default)) (Int.toNat (IntKind.i64.wrap (b2 + i10))) (List.getD data0 (Int.toNat (IntKind.i64.wrap (a1 + i10))) default)))] (by kernel_rfl) (by kernel_rfl) (by kernel_rfl) hO (by kernel_rfl) (ownGetN c5 (by simp [])) (by simp only [List.set, ownSet]) ?_
    intro H hO
    replace hN : List.length (List.set (List.set data0 (Int.toNat (IntKind.i64.wrap (a1 + i10))) (List.getD data0 (Int.toNat (IntKind.i64.wrap (b2 + i10))) default)) (Int.toNat (IntKind.i64.wrap (b2 + i10))) (List.getD data0 (Int.toNat (IntKind.i64.wrap (a1 + i10))) default)) = N0 := by simpa using hN
    refine D_end (by kernel_rfl) ?_
    refine E_has (l := [(0, (.msl 3 lo0p 0 (List.length (List.set (List.set data0 (Int.toNat (IntKind.i64.wrap (a1 + i10))) (List.getD data0 (Int.toNat (IntKind.i64.wrap (b2 + i10))) default)) (Int.toNat (IntKind.i64.wrap (b2 + i10))) (List.getD data0 (Int.toNat (IntKind.i64.wrap (a1 + i10))) default))))), (1, (eInt .i64 a1)), (2, (eInt .i64 b2)), (3, (eInt .i64 n3)), (10, (eInt .i64 i10))]) ⟨[(0, (.msl 3 lo0p 0 (List.length data0))), (1, (eInt .i64 a1)), (2, (eInt .i64 b2)), (3, (eInt .i64 n3)), (10, (eInt .i64 i10))], by kernel_rfl, rfl, ⟨SubV.eq (by simp []), SubV.refl _, SubV.refl _, SubV.refl _, SubV.refl _, trivial⟩⟩ ?_
    refine E_done (blockA_normal (thenA_normal (?_)))
    refine C_rg ttOk 3 ?_
    refine R_al ?_
    refine E_hk [(0, (.msl 3 lo0p 0 (List.length (List.set (List.set data0 (Int.toNat (IntKind.i64.wrap (a1 + i10))) (List.getD data0 (Int.toNat (IntKind.i64.wrap (b2 + i10))) default)) (Int.toNat (IntKind.i64.wrap (b2 + i10))) (List.getD data0 (Int.toNat (IntKind.i64.wrap (a1 + i10))) default))))), (1, (eInt .i64 a1)), (2, (eInt .i64 b2)), (3, (eInt .i64 n3)), (10, (eInt .i64 (IntKind.i64.wrap (i10 + (1 : Int)))))] ?_
    exact E_done (thenA_normal (⟨rfl, (List.set (List.set data0 (Int.toNat (IntKind.i64.wrap (a1 + i10))) (List.getD data0 (Int.toNat (IntKind.i64.wrap (b2 + i10))) default)) (Int.toNat (IntKind.i64.wrap (b2 + i10))) (List.getD data0 (Int.toNat (IntKind.i64.wrap (a1 + i10))) default), IntKind.i64.wrap (i10 + (1 : Int))), (Option.some.inj h1).symm, .eq (by kernel_rfl), hO, hN⟩))
  replace h1 := condF hc1 h1
  refine C_ex 0 ?_
  refine E_hk [(0, (.msl 3 lo0p 0 (List.length data0)))] ?_
  obtain rfl := Option.some.inj h1
  obtain rfl : _ = rr0 := ho0
  replace h0 : some data0 = some r := h0
  obtain rfl := Option.some.inj h0
  exact E_done (thenA_exit (thenA_exit (blockA_hit (Q_end (x := (.tup [])) (by kernel_rfl) (SubV.refl _) ⟨rfl, hO.ext, hO.at 0 (by kernel_rfl), by simp only [List.length_map]; exact hN.trans hN0⟩))))

theorem w_slices_rotateCmpFunc_api_Edge (lo0p : Nat) (data0 : (List api_Edge)) (a1 : Int) (m2 : Int) (b3 : Int) (cmp4_f : Nat) (cmp4_a cmp4_c : List V) (cmp4 : api_Edge → api_Edge → Option Int) (cmp4_h : ∀ a0 a1 r, cmp4 a0 a1 = some r → Fine Try.prog cmp4_f (cmp4_a ++ [(e_api_Edge a0), (e_api_Edge a1)] ++ cmp4_c) (eInt .i64 r)) (r : List api_Edge) (h0 : s_slices_rotateCmpFunc_api_Edge data0 a1 m2 b3 cmp4 = some r) : FineI Try.prog 118 lo0p 3 (List.map e_api_Edge data0) (List.map e_api_Edge r) [(.msl 3 lo0p 0 (List.length data0)), (eInt .i64 a1), (eInt .i64 m2), (eInt .i64 b3), (.fn (.func cmp4_f) cmp4_a cmp4_c)] (.tup []) := by
  intro H0 hl0
  refine F_walk Try.func118 (by kernel_rfl) (by kernel_rfl) (by kernel_rfl) ?_
  have hO := Owns.start1 hl0
  clear hl0
  obtain ⟨N0, hN0⟩ : ∃ n, n = List.length data0 := ⟨_, rfl⟩
  have hN : List.length data0 = N0 := hN0.symm
  unfold s_slices_rotateCmpFunc_api_Edge at h0
  refine C_sq ?_
  refine C_rg ttOk 4 ?_
  refine R_al ?_
  refine E_tn [(0, (.msl 3 lo0p 0 (List.length data0))), (2, (eInt .i64 m2)), (3, (eInt .i64 b3)), (4, (.fn (.func cmp4_f) cmp4_a cmp4_c)), (10, (eInt .i64 (IntKind.i64.wrap (m2 - a1))))] ?_
  refine C_sq ?_
  refine C_rg ttOk 4 ?_
  refine R_al ?_
  refine E_tn [(0, (.msl 3 lo0p 0 (List.length data0))), (2, (eInt .i64 m2)), (4, (.fn (.func cmp4_f) cmp4_a cmp4_c)), (10, (eInt .i64 (IntKind.i64.wrap (m2 - a1)))), (11, (eInt .i64 (IntKind.i64.wrap (b3 - m2))))] ?_
  refine C_seqJ (by kernel_rfl) (fun T H => ∃ data0 : List api_Edge, ∃ i10 : Int, Has T [(0, (.msl 3 lo0p 0 (List.length data0))), (2, (eInt .i64 m2)), (4, (.fn (.func cmp4_f) cmp4_a cmp4_c)), (10, (eInt .i64 i10))] ∧ Owns ⟨H0, [lo0p], []⟩ H [(lo0p, 3, List.map e_api_Edge data0)] ∧ List.length data0 = N0 ∧ slices_rotateCmpFunc_api_Edge_j1 cmp4 data0 m2 i10 = some r) ?_ ?_
  · clear hO hN h0
    rintro T H ⟨data0, i10, hT, hO, hN, h0⟩
    refine C_has hT ?_
    clear hT
    unfold slices_rotateCmpFunc_api_Edge_j1 at h0
    refine C_rg ttOk 8 ?_
    refine R_pu 7 ?_
    obtain ⟨x1, hx2, h0⟩ := bindE h0
    refine R_callI (L' := [(lo0p, 3, List.map e_api_Edge x1)]) 0 lo0p 3 (List.map e_api_Edge data0) (List.map e_api_Edge x1) 123 [(.msl 3 lo0p 0 (List.length data0)), (eInt .i64 (IntKind.i64.wrap (m2 - i10))), (eInt .i64 m2), (eInt .i64 i10), (.fn (.func cmp4_f) cmp4_a cmp4_c)] (.tup []) (by kernel_rfl) (by kernel_rfl) (w_slices_swapRangeCmpFunc_api_Edge lo0p data0 (IntKind.i64.wrap (m2 - i10)) m2 i10 cmp4_f cmp4_a cmp4_c cmp4 cmp4_h _ hx2) hO (by kernel_rfl) (by kernel_rfl) ?_
    intro H hO hl3
    simp only [List.length_map] at hl3
    replace hN := hl3.trans hN
    refine R_en ?_
    refine E_has (l := [(0, (.msl 3 lo0p 0 (List.length x1)))]) ⟨[(0, (.msl 3 lo0p 0 (List.length data0)))], by kernel_rfl, rfl, ⟨SubV.eq (by simp [hl3]), trivial⟩⟩ ?_
    obtain rfl := Option.some.inj h0
    exact E_done (Q_end (x := (.tup [])) (by kernel_rfl) (SubV.refl _) ⟨rfl, hO.ext, hO.at 0 (by kernel_rfl), by simp only [List.length_map]; exact hN.trans hN0⟩)
  refine C_bk 0 ?_
  refine C_hk [(0, (.msl 3 lo0p 0 (List.length data0))), (2, (eInt .i64 m2)), (4, (.fn (.func cmp4_f) cmp4_a cmp4_c)), (10, (eInt .i64 (IntKind.i64.wrap (m2 - a1)))), (11, (eInt .i64 (IntKind.i64.wrap (b3 - m2))))] ?_
  refine C_cut (fun T H => ∃ data0 : List api_Edge, ∃ i10 : Int, ∃ j11 : Int, Has T [(0, (.msl 3 lo0p 0 (List.length data0))), (2, (eInt .i64 m2)), (4, (.fn (.func cmp4_f) cmp4_a cmp4_c)), (10, (eInt .i64 i10)), (11, (eInt .i64 j11))] ∧ Owns ⟨H0, [lo0p], []⟩ H [(lo0p, 3, List.map e_api_Edge data0)] ∧ List.length data0 = N0 ∧ slices_rotateCmpFunc_api_Edge_h2 cmp4 data0 m2 i10 j11 = some r) ?_ ⟨data0, IntKind.i64.wrap (m2 - a1), IntKind.i64.wrap (b3 - m2), .eq (by kernel_rfl), hO, hN, h0⟩
  clear hO hN h0
  rintro T H ⟨data0, i10, j11, hT, hO, hN, h0⟩
  refine C_has hT ?_
  clear hT
  unfold slices_rotateCmpFunc_api_Edge_h2 at h0
  obtain ⟨rr0, hl0, h0⟩ := bindE h0
  refine C_loopS (by kernel_rfl) (fun (s : List api_Edge × Int × Int) T H => Has T [(0, (.msl 3 lo0p 0 (List.length s.1))), (2, (eInt .i64 m2)), (4, (.fn (.func cmp4_f) cmp4_a cmp4_c)), (10, (eInt .i64 s.2.1)), (11, (eInt .i64 s.2.2))] ∧ Owns ⟨H0, [lo0p], []⟩ H [(lo0p, 3, List.map e_api_Edge s.1)] ∧ List.length s.1 = N0) hl0 ⟨.eq (by kernel_rfl), hO, hN⟩ ?_
  clear hO hN
  rintro k0 s out1 T H ⟨hT, hO, hN⟩ h1 ho0
  obtain ⟨data0, i10, j11⟩ := s
  replace h1 : slices_rotateCmpFunc_api_Edge_l2 cmp4 m2 data0 i10 j11 = some out1 := h1
  refine C_has (l := [(0, (.msl 3 lo0p 0 (List.length data0))), (2, (eInt .i64 m2)), (4, (.fn (.func cmp4_f) cmp4_a cmp4_c)), (10, (eInt .i64 i10)), (11, (eInt .i64 j11))]) hT ?_
  clear hT
  unfold slices_rotateCmpFunc_api_Edge_l2 at h1
  refine C_sq ?_
  refine C_sq ?_
  refine C_rg ttOk 3 ?_
  refine R_al ?_
  refine E_tn [(0, (.msl 3 lo0p 0 (List.length data0))), (2, (eInt .i64 m2)), (4, (.fn (.func cmp4_f) cmp4_a cmp4_c)), (10, (eInt .i64 i10)), (11, (eInt .i64 j11)), (20, (eBool (!decide (i10 = j11))))] ?_
  refine C_cn (!decide (i10 = j11)) (fun hc4 => ?_) (fun hc4 => ?_)
  · replace h1 := condT hc4 h1
    refine C_sk ?_
    refine E_tn [(0, (.msl 3 lo0p 0 (List.length data0))), (2, (eInt .i64 m2)), (4, (.fn (.func cmp4_f) cmp4_a cmp4_c)), (10, (eInt .i64 i10)), (11, (eInt .i64 j11))] ?_
    refine C_bk 1 ?_
    refine C_sq ?_
    refine C_rg ttOk 3 ?_
    refine R_al ?_
    refine E_tn [(0, (.msl 3 lo0p 0 (List.length data0))), (2, (eInt .i64 m2)), (4, (.fn (.func cmp4_f) cmp4_a cmp4_c)), (10, (eInt .i64 i10)), (11, (eInt .i64 j11)), (23, (eBool (decide (j11 < i10))))] ?_
    refine C_cn (decide (j11 < i10)) (fun hc5 => ?_) (fun hc5 => ?_)
    · replace h1 := condT hc5 h1
      refine C_sq ?_
      refine C_rg ttOk 8 ?_
      refine R_pu 7 ?_
      obtain ⟨x6, hx7, h1⟩ := bindE h1
      refine R_callI (L' := [(lo0p, 3, List.map e_api_Edge x6)]) 0 lo0p 3 (List.map e_api_Edge data0) (List.map e_api_Edge x6) 123 [(.msl 3 lo0p 0 (List.length data0)), (eInt .i64 (IntKind.i64.wrap (m2 - i10))), (eInt .i64 m2), (eInt .i64 j11), (.fn (.func cmp4_f) cmp4_a cmp4_c)] (.tup []) (by kernel_rfl) (by kernel_rfl) (w_slices_swapRangeCmpFunc_api_Edge lo0p data0 (IntKind.i64.wrap (m2 - i10)) m2 j11 cmp4_f cmp4_a cmp4_c cmp4 cmp4_h _ hx7) hO (by kernel_rfl) (by kernel_rfl) ?_
      intro H hO hl8
      simp only [List.length_map] at hl8
      replace hN := hl8.trans hN
      refine R_en ?_
      refine E_has (l := [(0, (.msl 3 lo0p 0 (List.length x6))), (2, (eInt .i64 m2)), (4, (.fn (.func cmp4_f) cmp4_a cmp4_c)), (10, (eInt .i64 i10)), (11, (eInt .i64 j11))]) ⟨[(0, (.msl 3 lo0p 0 (List.length data0))), (2, (eInt .i64 m2)), (4, (.fn (.func cmp4_f) cmp4_a cmp4_c)), (10, (eInt .i64 i10)), (11, (eInt .i64 j11))], by kernel_rfl, rfl, ⟨SubV.eq (by simp [hl8]), SubV.refl _, SubV.refl _, SubV.refl _, SubV.refl _, trivial⟩⟩ ?_
      refine E_done (thenA_normal (?_))
      refine C_rg ttOk 4 ?_
      refine R_al ?_
      refine E_hk [(0, (.msl 3 lo0p 0 (List.length x6))), (2, (eInt .i64 m2)), (4, (.fn (.func cmp4_f) cmp4_a cmp4_c)), (10, (eInt .i64 (IntKind.i64.wrap (i10 - j11)))), (11, (eInt .i64 j11))] ?_
      exact E_done (blockA_normal (thenA_normal (⟨rfl, (x6, IntKind.i64.wrap (i10 - j11), j11), (Option.some.inj h1).symm, .eq (by kernel_rfl), hO, hN⟩)))
    replace h1 := condF hc5 h1
    refine C_sq ?_
    refine C_rg ttOk 12 ?_
    refine R_pu 11 ?_
    obtain ⟨x9, hx10, h1⟩ := bindE h1
    refine R_callI (L' := [(lo0p, 3, List.map e_api_Edge x9)]) 0 lo0p 3 (List.map e_api_Edge data0) (List.map e_api_Edge x9) 123 [(.msl 3 lo0p 0 (List.length data0)), (eInt .i64 (IntKind.i64.wrap (m2 - i10))), (eInt .i64 (IntKind.i64.wrap ((IntKind.i64.wrap (m2 + j11)) - i10))), (eInt .i64 i10), (.fn (.func cmp4_f) cmp4_a cmp4_c)] (.tup []) (by kernel_rfl) (by kernel_rfl) (w_slices_swapRangeCmpFunc_api_Edge lo0p data0 (IntKind.i64.wrap (m2 - i10)) (IntKind.i64.wrap ((IntKind.i64.wrap (m2 + j11)) - i10)) i10 cmp4_f cmp4_a cmp4_c cmp4 cmp4_h _ hx10) hO (by kernel_rfl) (by kernel_rfl) ?_
    intro H hO hl11
    simp only [List.length_map] at hl11
    replace hN := hl11.trans hN
    refine R_en ?_
    refine E_has (l := [(0, (.msl 3 lo0p 0 (List.length x9))), (2, (eInt .i64 m2)), (4, (.fn (.func cmp4_f) cmp4_a cmp4_c)), (10, (eInt .i64 i10)), (11, (eInt .i64 j11))]) ⟨[(0, (.msl 3 lo0p 0 (List.length data0))), (2, (eInt .i64 m2)), (4, (.fn (.func cmp4_f) cmp4_a cmp4_c)), (10, (eInt .i64 i10)), (11, (eInt .i64 j11))], by kernel_rfl, rfl, ⟨SubV.eq (by simp [hl11]), SubV.refl _, SubV.refl _, SubV.refl _, SubV.refl _, trivial⟩⟩ ?_
    refine E_done (thenA_normal (?_))
    refine C_rg ttOk 4 ?_
    refine R_al ?_
    refine E_hk [(0, (.msl 3 lo0p 0 (List.length x9))), (2, (eInt .i64 m2)), (4, (.fn (.func cmp4_f) cmp4_a cmp4_c)), (10, (eInt .i64 i10)), (11, (eInt .i64 (IntKind.i64.wrap (j11 - i10))))] ?_
    exact E_done (blockA_normal (thenA_normal (⟨rfl, (x9, i10, IntKind.i64.wrap (j11 - i10)), (Option.some.inj h1).symm, .eq (by kernel_rfl), hO, hN⟩)))
  replace h1 := condF hc4 h1
  refine C_ex 0 ?_
  refine E_hk [(0, (.msl 3 lo0p 0 (List.length data0))), (2, (eInt .i64 m2)), (4, (.fn (.func cmp4_f) cmp4_a cmp4_c)), (10, (eInt .i64 i10))] ?_
  obtain rfl := Option.some.inj h1
  obtain rfl : _ = rr0 := ho0
  replace h0 : slices_rotateCmpFunc_api_Edge_j1 cmp4 data0 m2 i10 = some r := h0
  exact E_done (thenA_exit (thenA_exit (blockA_hit (thenA_normal (⟨rfl, data0, i10, .eq (by kernel_rfl), hO, hN, h0⟩)))))

end Go.Abs
namespace Go.Abs
open Go Go.RowKit Go.Proofs
theorem w_slices_symMergeCmpFunc_api_Edge_step (cmp4_f : Nat) (cmp4_a cmp4_c : List V) (cmp4 : api_Edge → api_Edge → Option Int) (cmp4_h : ∀ a0 a1 r, cmp4 a0 a1 = some r → Fine Try.prog cmp4_f (cmp4_a ++ [(e_api_Edge a0), (e_api_Edge a1)] ++ cmp4_c) (eInt .i64 r)) (rec : (List api_Edge) → Int → Int → Int → Option (List api_Edge)) (ih : ∀ (lo0p : Nat) (data0 : (List api_Edge)) (a1 : Int) (m2 : Int) (b3 : Int) (r : List api_Edge), rec data0 a1 m2 b3 = some r → FineI Try.prog 113 lo0p 3 (List.map e_api_Edge data0) (List.map e_api_Edge r) [(.msl 3 lo0p 0 (List.length data0)), (eInt .i64 a1), (eInt .i64 m2), (eInt .i64 b3), (.fn (.func cmp4_f) cmp4_a cmp4_c)] (.tup [])) (lo0p : Nat) (data0 : (List api_Edge)) (a1 : Int) (m2 : Int) (b3 : Int) (r : List api_Edge) (h0 : slices_symMergeCmpFunc_api_Edge_step cmp4 rec data0 a1 m2 b3 = some r) : FineI Try.prog 113 lo0p 3 (List.map e_api_Edge data0) (List.map e_api_Edge r) [(.msl 3 lo0p 0 (List.length data0)), (eInt .i64 a1), (eInt .i64 m2), (eInt .i64 b3), (.fn (.func cmp4_f) cmp4_a cmp4_c)] (.tup []) := by
  intro H0 hl0
  refine F_walk Try.func113 (by kernel_rfl) (by kernel_rfl) (by kernel_rfl) ?_
  have hO := Owns.start1 hl0
  clear hl0
  obtain ⟨N0, hN0⟩ : ∃ n, n = List.length data0 := ⟨_, rfl⟩
  have hN : List.length data0 = N0 := hN0.symm
  unfold slices_symMergeCmpFunc_api_Edge_step at h0
  refine C_seqJ (by kernel_rfl) (fun T H => ∃ data0 : List api_Edge, Has T [(0, (.msl 3 lo0p 0 (List.length data0))), (1, (eInt .i64 a1)), (2, (eInt .i64 m2)), (3, (eInt .i64 b3)), (4, (.fn (.func cmp4_f) cmp4_a cmp4_c))] ∧ Owns ⟨H0, [lo0p], []⟩ H [(lo0p, 3, List.map e_api_Edge data0)] ∧ List.length data0 = N0 ∧ slices_symMergeCmpFunc_api_Edge_j1 cmp4 rec data0 a1 m2 b3 = some r) ?_ ?_
  · clear hO hN h0
    rintro T H ⟨data0, hT, hO, hN, h0⟩
    refine C_has hT ?_
    clear hT
    unfold slices_symMergeCmpFunc_api_Edge_j1 at h0
    refine C_seqJ (by kernel_rfl) (fun T H => ∃ data0 : List api_Edge, Has T [(0, (.msl 3 lo0p 0 (List.length data0))), (1, (eInt .i64 a1)), (2, (eInt .i64 m2)), (3, (eInt .i64 b3)), (4, (.fn (.func cmp4_f) cmp4_a cmp4_c))] ∧ Owns ⟨H0, [lo0p], []⟩ H [(lo0p, 3, List.map e_api_Edge data0)] ∧ List.length data0 = N0 ∧ slices_symMergeCmpFunc_api_Edge_j2 cmp4 rec data0 a1 m2 b3 = some r) ?_ ?_
    · clear hO hN h0
      rintro T H ⟨data0, hT, hO, hN, h0⟩
      refine C_has hT ?_
      clear hT
      unfold slices_symMergeCmpFunc_api_Edge_j2 at h0
      refine C_sq ?_
      refine C_rg ttOk 7 ?_
      obtain ⟨c1, h0⟩ := asrtE h0
      refine R_all (Ds := [0 ≤ (1 : Int)]) (by kernel_rfl) ⟨c1, trivial⟩ ?_
      refine E_tn [(0, (.msl 3 lo0p 0 (List.length data0))), (1, (eInt .i64 a1)), (2, (eInt .i64 m2)), (3, (eInt .i64 b3)), (4, (.fn (.func cmp4_f) cmp4_a cmp4_c)), (18, (eInt .i64 (IntKind.i64.wrap (Int.fdiv (IntKind.u64.wrap (IntKind.i64.wrap (a1 + b3))) (2 ^ (min (Int.toNat (1 : Int)) 64))))))] ?_
      refine C_sq ?_
      refine C_rg ttOk 4 ?_
      refine R_al ?_
      refine E_tn [(0, (.msl 3 lo0p 0 (List.length data0))), (1, (eInt .i64 a1)), (2, (eInt .i64 m2)), (3, (eInt .i64 b3)), (4, (.fn (.func cmp4_f) cmp4_a cmp4_c)), (18, (eInt .i64 (IntKind.i64.wrap (Int.fdiv (IntKind.u64.wrap (IntKind.i64.wrap (a1 + b3))) (2 ^ (min (Int.toNat (1 : Int)) 64)))))), (19, (eInt .i64 (IntKind.i64.wrap ((IntKind.i64.wrap (Int.fdiv (IntKind.u64.wrap (IntKind.i64.wrap (a1 + b3))) (2 ^ (min (Int.toNat (1 : Int)) 64)))) + m2))))] ?_
      refine C_sq ?_
      refine C_rg ttOk 2 ?_
      refine R_al ?_
      refine E_tn [(0, (.msl 3 lo0p 0 (List.length data0))), (1, (eInt .i64 a1)), (2, (eInt .i64 m2)), (3, (eInt .i64 b3)), (4, (.fn (.func cmp4_f) cmp4_a cmp4_c)), (18, (eInt .i64 (IntKind.i64.wrap (Int.fdiv (IntKind.u64.wrap (IntKind.i64.wrap (a1 + b3))) (2 ^ (min (Int.toNat (1 : Int)) 64)))))), (19, (eInt .i64 (IntKind.i64.wrap ((IntKind.i64.wrap (Int.fdiv (IntKind.u64.wrap (IntKind.i64.wrap (a1 + b3))) (2 ^ (min (Int.toNat (1 : Int)) 64)))) + m2))))] ?_
      refine C_seqJ (by kernel_rfl) (fun T H => ∃ data0 : List api_Edge, ∃ mid18 : Int, ∃ n19 : Int, ∃ start20 : Int, ∃ r21 : Int, Has T [(0, (.msl 3 lo0p 0 (List.length data0))), (1, (eInt .i64 a1)), (2, (eInt .i64 m2)), (3, (eInt .i64 b3)), (4, (.fn (.func cmp4_f) cmp4_a cmp4_c)), (18, (eInt .i64 mid18)), (19, (eInt .i64 n19)), (20, (eInt .i64 start20)), (21, (eInt .i64 r21))] ∧ Owns ⟨H0, [lo0p], []⟩ H [(lo0p, 3, List.map e_api_Edge data0)] ∧ List.length data0 = N0 ∧ slices_symMergeCmpFunc_api_Edge_j3 cmp4 rec data0 a1 m2 b3 mid18 n19 start20 r21 = some r) ?_ ?_
      · clear hO hN h0
        rintro T H ⟨data0, mid18, n19, start20, r21, hT, hO, hN, h0⟩
        refine C_has hT ?_
        clear hT
        unfold slices_symMergeCmpFunc_api_Edge_j3 at h0
        refine C_sq ?_
        refine C_rg ttOk 3 ?_
        refine R_al ?_
        refine E_tn [(0, (.msl 3 lo0p 0 (List.length data0))), (1, (eInt .i64 a1)), (2, (eInt .i64 m2)), (3, (eInt .i64 b3)), (4, (.fn (.func cmp4_f) cmp4_a cmp4_c)), (18, (eInt .i64 mid18)), (19, (eInt .i64 n19)), (20, (eInt .i64 start20)), (21, (eInt .i64 r21)), (22, (eInt .i64 (IntKind.i64.wrap (n19 - (1 : Int)))))] ?_
        refine C_seqJ (by kernel_rfl) (fun T H => ∃ data0 : List api_Edge, ∃ start20 : Int, Has T [(0, (.msl 3 lo0p 0 (List.length data0))), (1, (eInt .i64 a1)), (2, (eInt .i64 m2)), (3, (eInt .i64 b3)), (4, (.fn (.func cmp4_f) cmp4_a cmp4_c)), (18, (eInt .i64 mid18)), (19, (eInt .i64 n19)), (20, (eInt .i64 start20))] ∧ Owns ⟨H0, [lo0p], []⟩ H [(lo0p, 3, List.map e_api_Edge data0)] ∧ List.length data0 = N0 ∧ slices_symMergeCmpFunc_api_Edge_j4 cmp4 rec data0 a1 m2 b3 mid18 n19 start20 = some r) ?_ ?_
        · clear hO hN h0
          rintro T H ⟨data0, start20, hT, hO, hN, h0⟩
          refine C_has hT ?_
          clear hT
          unfold slices_symMergeCmpFunc_api_Edge_j4 at h0
          refine C_sq ?_
          refine C_rg ttOk 4 ?_
          refine R_al ?_
          refine E_tn [(0, (.msl 3 lo0p 0 (List.length data0))), (1, (eInt .i64 a1)), (2, (eInt .i64 m2)), (3, (eInt .i64 b3)), (4, (.fn (.func cmp4_f) cmp4_a cmp4_c)), (18, (eInt .i64 mid18)), (20, (eInt .i64 start20)), (24, (eInt .i64 (IntKind.i64.wrap (n19 - start20))))] ?_
          refine C_seqJ (by kernel_rfl) (fun T H => ∃ data0 : List api_Edge, ∃ end24 : Int, Has T [(0, (.msl 3 lo0p 0 (List.length data0))), (1, (eInt .i64 a1)), (3, (eInt .i64 b3)), (4, (.fn (.func cmp4_f) cmp4_a cmp4_c)), (18, (eInt .i64 mid18)), (20, (eInt .i64 start20)), (24, (eInt .i64 end24))] ∧ Owns ⟨H0, [lo0p], []⟩ H [(lo0p, 3, List.map e_api_Edge data0)] ∧ List.length data0 = N0 ∧ slices_symMergeCmpFunc_api_Edge_j5 cmp4 rec data0 a1 b3 mid18 start20 end24 = some r) ?_ ?_
          · clear hO hN h0
            rintro T H ⟨data0, end24, hT, hO, hN, h0⟩
            refine C_has hT ?_
            clear hT
            unfold slices_symMergeCmpFunc_api_Edge_j5 at h0
            refine C_seqJ (by kernel_rfl) (fun T H => ∃ data0 : List api_Edge, Has T [(0, (.msl 3 lo0p 0 (List.length data0))), (3, (eInt .i64 b3)), (4, (.fn (.func cmp4_f) cmp4_a cmp4_c)), (18, (eInt .i64 mid18)), (24, (eInt .i64 end24))] ∧ Owns ⟨H0, [lo0p], []⟩ H [(lo0p, 3, List.map e_api_Edge data0)] ∧ List.length data0 = N0 ∧ slices_symMergeCmpFunc_api_Edge_j6 cmp4 rec data0 b3 mid18 end24 = some r) ?_ ?_
            · clear hO hN h0
              rintro T H ⟨data0, hT, hO, hN, h0⟩
              refine C_has hT ?_
              clear hT
              unfold slices_symMergeCmpFunc_api_Edge_j6 at h0
              refine C_sq ?_
              refine C_rg ttOk 8 ?_
              refine R_al ?_
              refine E_tn [(0, (.msl 3 lo0p 0 (List.length data0))), (3, (eInt .i64 b3)), (4, (.fn (.func cmp4_f) cmp4_a cmp4_c)), (18, (eInt .i64 mid18)), (24, (eInt .i64 end24)), (213, (eBool ((decide (mid18 < end24)) && (decide (end24 < b3)))))] ?_
              refine C_cn ((decide (mid18 < end24)) && (decide (end24 < b3))) (fun hc2 => ?_) (fun hc2 => ?_)
              · replace h0 := condT hc2 h0
                refine C_rg ttOk 6 ?_
                refine R_pu 5 ?_
                obtain ⟨x3, hx4, h0⟩ := bindE h0
                refine R_callI (L' := [(lo0p, 3, List.map e_api_Edge x3)]) 0 lo0p 3 (List.map e_api_Edge data0) (List.map e_api_Edge x3) 113 [(.msl 3 lo0p 0 (List.length data0)), (eInt .i64 mid18), (eInt .i64 end24), (eInt .i64 b3), (.fn (.func cmp4_f) cmp4_a cmp4_c)] (.tup []) (by kernel_rfl) (by kernel_rfl) (ih lo0p data0 mid18 end24 b3 _ hx4) hO (by kernel_rfl) (by kernel_rfl) ?_
                intro H hO hl5
                simp only [List.length_map] at hl5
                replace hN := hl5.trans hN
                refine R_en ?_
                refine E_has (l := [(0, (.msl 3 lo0p 0 (List.length x3)))]) ⟨[(0, (.msl 3 lo0p 0 (List.length data0)))], by kernel_rfl, rfl, ⟨SubV.eq (by simp [hl5]), trivial⟩⟩ ?_
                obtain rfl := Option.some.inj h0
                exact E_done (Q_end (x := (.tup [])) (by kernel_rfl) (SubV.refl _) ⟨rfl, hO.ext, hO.at 0 (by kernel_rfl), by simp only [List.length_map]; exact hN.trans hN0⟩)
              replace h0 := condF hc2 h0
              refine C_sk ?_
              refine E_hk [(0, (.msl 3 lo0p 0 (List.length data0)))] ?_
              obtain rfl := Option.some.inj h0
              exact E_done (Q_end (x := (.tup [])) (by kernel_rfl) (SubV.refl _) ⟨rfl, hO.ext, hO.at 0 (by kernel_rfl), by simp only [List.length_map]; exact hN.trans hN0⟩)
            refine C_sq ?_
            refine C_rg ttOk 8 ?_
            refine R_al ?_
            refine E_tn [(0, (.msl 3 lo0p 0 (List.length data0))), (1, (eInt .i64 a1)), (3, (eInt .i64 b3)), (4, (.fn (.func cmp4_f) cmp4_a cmp4_c)), (18, (eInt .i64 mid18)), (20, (eInt .i64 start20)), (24, (eInt .i64 end24)), (199, (eBool ((decide (a1 < start20)) && (decide (start20 < mid18)))))] ?_
            refine C_cn ((decide (a1 < start20)) && (decide (start20 < mid18))) (fun hc6 => ?_) (fun hc6 => ?_)
            · replace h0 := condT hc6 h0
              refine C_rg ttOk 6 ?_
              refine R_pu 5 ?_
              obtain ⟨x7, hx8, h0⟩ := bindE h0
              refine R_callI (L' := [(lo0p, 3, List.map e_api_Edge x7)]) 0 lo0p 3 (List.map e_api_Edge data0) (List.map e_api_Edge x7) 113 [(.msl 3 lo0p 0 (List.length data0)), (eInt .i64 a1), (eInt .i64 start20), (eInt .i64 mid18), (.fn (.func cmp4_f) cmp4_a cmp4_c)] (.tup []) (by kernel_rfl) (by kernel_rfl) (ih lo0p data0 a1 start20 mid18 _ hx8) hO (by kernel_rfl) (by kernel_rfl) ?_
              intro H hO hl9
              simp only [List.length_map] at hl9
              replace hN := hl9.trans hN
              refine R_en ?_
              refine E_has (l := [(0, (.msl 3 lo0p 0 (List.length x7))), (3, (eInt .i64 b3)), (4, (.fn (.func cmp4_f) cmp4_a cmp4_c)), (18, (eInt .i64 mid18)), (24, (eInt .i64 end24))]) ⟨[(0, (.msl 3 lo0p 0 (List.length data0))), (3, (eInt .i64 b3)), (4, (.fn (.func cmp4_f) cmp4_a cmp4_c)), (18, (eInt .i64 mid18)), (24, (eInt .i64 end24))], by kernel_rfl, rfl, ⟨SubV.eq (by simp [hl9]), SubV.refl _, SubV.refl _, SubV.refl _, SubV.refl _, trivial⟩⟩ ?_
              exact E_done (thenA_normal (⟨rfl, x7, .eq (by kernel_rfl), hO, hN, h0⟩))
            replace h0 := condF hc6 h0
            refine C_sk ?_
            refine E_hk [(0, (.msl 3 lo0p 0 (List.length data0))), (3, (eInt .i64 b3)), (4, (.fn (.func cmp4_f) cmp4_a cmp4_c)), (18, (eInt .i64 mid18)), (24, (eInt .i64 end24))] ?_
            exact E_done (thenA_normal (⟨rfl, data0, .eq (by kernel_rfl), hO, hN, h0⟩))
          refine C_sq ?_
          refine C_rg ttOk 8 ?_
          refine R_al ?_
          refine E_tn [(0, (.msl 3 lo0p 0 (List.length data0))), (1, (eInt .i64 a1)), (2, (eInt .i64 m2)), (3, (eInt .i64 b3)), (4, (.fn (.func cmp4_f) cmp4_a cmp4_c)), (18, (eInt .i64 mid18)), (20, (eInt .i64 start20)), (24, (eInt .i64 (IntKind.i64.wrap (n19 - start20)))), (185, (eBool ((decide (start20 < m2)) && (decide (m2 < (IntKind.i64.wrap (n19 - start20)))))))] ?_
          refine C_cn ((decide (start20 < m2)) && (decide (m2 < (IntKind.i64.wrap (n19 - start20))))) (fun hc10 => ?_) (fun hc10 => ?_)
          · replace h0 := condT hc10 h0
            refine C_rg ttOk 6 ?_
            refine R_pu 5 ?_
            obtain ⟨x11, hx12, h0⟩ := bindE h0
            refine R_callI (L' := [(lo0p, 3, List.map e_api_Edge x11)]) 0 lo0p 3 (List.map e_api_Edge data0) (List.map e_api_Edge x11) 118 [(.msl 3 lo0p 0 (List.length data0)), (eInt .i64 start20), (eInt .i64 m2), (eInt .i64 (IntKind.i64.wrap (n19 - start20))), (.fn (.func cmp4_f) cmp4_a cmp4_c)] (.tup []) (by kernel_rfl) (by kernel_rfl) (w_slices_rotateCmpFunc_api_Edge lo0p data0 start20 m2 (IntKind.i64.wrap (n19 - start20)) cmp4_f cmp4_a cmp4_c cmp4 cmp4_h _ hx12) hO (by kernel_rfl) (by kernel_rfl) ?_
            intro H hO hl13
            simp only [List.length_map] at hl13
            replace hN := hl13.trans hN
            refine R_en ?_
            refine E_has (l := [(0, (.msl 3 lo0p 0 (List.length x11))), (1, (eInt .i64 a1)), (3, (eInt .i64 b3)), (4, (.fn (.func cmp4_f) cmp4_a cmp4_c)), (18, (eInt .i64 mid18)), (20, (eInt .i64 start20)), (24, (eInt .i64 (IntKind.i64.wrap (n19 - start20))))]) ⟨[(0, (.msl 3 lo0p 0 (List.length data0))), (1, (eInt .i64 a1)), (3, (eInt .i64 b3)), (4, (.fn (.func cmp4_f) cmp4_a cmp4_c)), (18, (eInt .i64 mid18)), (20, (eInt .i64 start20)), (24, (eInt .i64 (IntKind.i64.wrap (n19 - start20))))], by kernel_rfl, rfl, ⟨SubV.eq (by simp [hl13]), SubV.refl _, SubV.refl _, SubV.refl _, SubV.refl _, SubV.refl _, SubV.refl _, trivial⟩⟩ ?_
            exact E_done (thenA_normal (⟨rfl, x11, IntKind.i64.wrap (n19 - start20), .eq (by kernel_rfl), hO, hN, h0⟩))
          replace h0 := condF hc10 h0
          refine C_sk ?_
          refine E_hk [(0, (.msl 3 lo0p 0 (List.length data0))), (1, (eInt .i64 a1)), (3, (eInt .i64 b3)), (4, (.fn (.func cmp4_f) cmp4_a cmp4_c)), (18, (eInt .i64 mid18)), (20, (eInt .i64 start20)), (24, (eInt .i64 (IntKind.i64.wrap (n19 - start20))))] ?_
          exact E_done (thenA_normal (⟨rfl, data0, IntKind.i64.wrap (n19 - start20), .eq (by kernel_rfl), hO, hN, h0⟩))
        refine C_bk 8 ?_
        refine C_hk [(0, (.msl 3 lo0p 0 (List.length data0))), (1, (eInt .i64 a1)), (2, (eInt .i64 m2)), (3, (eInt .i64 b3)), (4, (.fn (.func cmp4_f) cmp4_a cmp4_c)), (18, (eInt .i64 mid18)), (19, (eInt .i64 n19)), (20, (eInt .i64 start20)), (21, (eInt .i64 r21)), (22, (eInt .i64 (IntKind.i64.wrap (n19 - (1 : Int)))))] ?_
        refine C_cut (fun T H => ∃ data0 : List api_Edge, ∃ start20 : Int, ∃ r21 : Int, ∃ p22 : Int, Has T [(0, (.msl 3 lo0p 0 (List.length data0))), (1, (eInt .i64 a1)), (2, (eInt .i64 m2)), (3, (eInt .i64 b3)), (4, (.fn (.func cmp4_f) cmp4_a cmp4_c)), (18, (eInt .i64 mid18)), (19, (eInt .i64 n19)), (20, (eInt .i64 start20)), (21, (eInt .i64 r21)), (22, (eInt .i64 p22))] ∧ Owns ⟨H0, [lo0p], []⟩ H [(lo0p, 3, List.map e_api_Edge data0)] ∧ List.length data0 = N0 ∧ slices_symMergeCmpFunc_api_Edge_h7 cmp4 rec data0 a1 m2 b3 mid18 n19 start20 r21 p22 = some r) ?_ ⟨data0, start20, r21, IntKind.i64.wrap (n19 - (1 : Int)), .eq (by kernel_rfl), hO, hN, h0⟩
        clear hO hN h0
        rintro T H ⟨data0, start20, r21, p22, hT, hO, hN, h0⟩
        refine C_has hT ?_
        clear hT
        unfold slices_symMergeCmpFunc_api_Edge_h7 at h0
        obtain ⟨rr0, hl0, h0⟩ := bindE h0
        refine C_loopS (by kernel_rfl) (fun (s : List api_Edge × Int × Int) T H => Has T [(0, (.msl 3 lo0p 0 (List.length s.1))), (1, (eInt .i64 a1)), (2, (eInt .i64 m2)), (3, (eInt .i64 b3)), (4, (.fn (.func cmp4_f) cmp4_a cmp4_c)), (18, (eInt .i64 mid18)), (19, (eInt .i64 n19)), (20, (eInt .i64 s.2.1)), (21, (eInt .i64 s.2.2)), (22, (eInt .i64 p22))] ∧ Owns ⟨H0, [lo0p], []⟩ H [(lo0p, 3, List.map e_api_Edge s.1)] ∧ List.length s.1 = N0) hl0 ⟨.eq (by kernel_rfl), hO, hN⟩ ?_
        clear hO hN
        rintro k0 s out1 T H ⟨hT, hO, hN⟩ h1 ho0
        obtain ⟨data0, start20, r21⟩ := s
        replace h1 : slices_symMergeCmpFunc_api_Edge_l7 cmp4 rec a1 m2 b3 mid18 n19 p22 data0 start20 r21 = some out1 := h1
        refine C_has (l := [(0, (.msl 3 lo0p 0 (List.length data0))), (1, (eInt .i64 a1)), (2, (eInt .i64 m2)), (3, (eInt .i64 b3)), (4, (.fn (.func cmp4_f) cmp4_a cmp4_c)), (18, (eInt .i64 mid18)), (19, (eInt .i64 n19)), (20, (eInt .i64 start20)), (21, (eInt .i64 r21)), (22, (eInt .i64 p22))]) hT ?_
        clear hT
        unfold slices_symMergeCmpFunc_api_Edge_l7 at h1
        refine C_sq ?_
        refine C_sq ?_
        refine C_rg ttOk 3 ?_
        refine R_al ?_
        refine E_tn [(0, (.msl 3 lo0p 0 (List.length data0))), (1, (eInt .i64 a1)), (2, (eInt .i64 m2)), (3, (eInt .i64 b3)), (4, (.fn (.func cmp4_f) cmp4_a cmp4_c)), (18, (eInt .i64 mid18)), (19, (eInt .i64 n19)), (20, (eInt .i64 start20)), (21, (eInt .i64 r21)), (22, (eInt .i64 p22)), (151, (eBool (decide (start20 < r21))))] ?_
        refine C_cn (decide (start20 < r21)) (fun hc14 => ?_) (fun hc14 => ?_)
        · replace h1 := condT hc14 h1
          refine C_sk ?_
          refine E_tn [(0, (.msl 3 lo0p 0 (List.length data0))), (1, (eInt .i64 a1)), (2, (eInt .i64 m2)), (3, (eInt .i64 b3)), (4, (.fn (.func cmp4_f) cmp4_a cmp4_c)), (18, (eInt .i64 mid18)), (19, (eInt .i64 n19)), (20, (eInt .i64 start20)), (21, (eInt .i64 r21)), (22, (eInt .i64 p22))] ?_
          refine C_bk 9 ?_
          refine C_sq ?_
          refine C_rg ttOk 7 ?_
          obtain ⟨c15, h1⟩ := asrtE h1
          refine R_all (Ds := [0 ≤ (1 : Int)]) (by kernel_rfl) ⟨c15, trivial⟩ ?_
          refine E_tn [(0, (.msl 3 lo0p 0 (List.length data0))), (1, (eInt .i64 a1)), (2, (eInt .i64 m2)), (3, (eInt .i64 b3)), (4, (.fn (.func cmp4_f) cmp4_a cmp4_c)), (18, (eInt .i64 mid18)), (19, (eInt .i64 n19)), (20, (eInt .i64 start20)), (21, (eInt .i64 r21)), (22, (eInt .i64 p22)), (23, (eInt .i64 (IntKind.i64.wrap (Int.fdiv (IntKind.u64.wrap (IntKind.i64.wrap (start20 + r21))) (2 ^ (min (Int.toNat (1 : Int)) 64))))))] ?_
          refine C_sq ?_
          refine A_cl (C_draw (pl := plOf []) ttOk (by kernel_rfl) (n := 14) (by kernel_rfl) (by kernel_rfl) (by kernel_rfl) ?_)
          obtain ⟨c16, h1⟩ := asrtE h1
          refine D_pure 6 (by kernel_rfl) (Ds := [0 ≤ (IntKind.i64.wrap (p22 - (IntKind.i64.wrap (Int.fdiv (IntKind.u64.wrap (IntKind.i64.wrap (start20 + r21))) (2 ^ (min (Int.toNat (1 : Int)) 64)))))) ∧ (IntKind.i64.wrap (p22 - (IntKind.i64.wrap (Int.fdiv (IntKind.u64.wrap (IntKind.i64.wrap (start20 + r21))) (2 ^ (min (Int.toNat (1 : Int)) 64)))))) < ((List.length data0 : Nat) : Int)]) (by kernel_rfl) ⟨c16, trivial⟩ ?_
          refine D_loadO 0 lo0p 3 (0 + Int.toNat (IntKind.i64.wrap (p22 - (IntKind.i64.wrap (Int.fdiv (IntKind.u64.wrap (IntKind.i64.wrap (start20 + r21))) (2 ^ (min (Int.toNat (1 : Int)) 64))))))) (e_api_Edge (List.getD data0 (Int.toNat (IntKind.i64.wrap (p22 - (IntKind.i64.wrap (Int.fdiv (IntKind.u64.wrap (IntKind.i64.wrap (start20 + r21))) (2 ^ (min (Int.toNat (1 : Int)) 64))))))) default)) (e_api_Edge (List.getD data0 (Int.toNat (IntKind.i64.wrap (p22 - (IntKind.i64.wrap (Int.fdiv (IntKind.u64.wrap (IntKind.i64.wrap (start20 + r21))) (2 ^ (min (Int.toNat (1 : Int)) 64))))))) default)) (List.map e_api_Edge data0) (by kernel_rfl) (by kernel_rfl) (by kernel_rfl) (by kernel_rfl) hO (by kernel_rfl) (ownGet c16) ?_
          obtain ⟨c17, h1⟩ := asrtE h1
          refine D_pure 10 (by kernel_rfl) (Ds := [0 ≤ (IntKind.i64.wrap (Int.fdiv (IntKind.u64.wrap (IntKind.i64.wrap (start20 + r21))) (2 ^ (min (Int.toNat (1 : Int)) 64)))) ∧ (IntKind.i64.wrap (Int.fdiv (IntKind.u64.wrap (IntKind.i64.wrap (start20 + r21))) (2 ^ (min (Int.toNat (1 : Int)) 64)))) < ((List.length data0 : Nat) : Int)]) (by kernel_rfl) ⟨c17, trivial⟩ ?_
          refine D_loadO 0 lo0p 3 (0 + Int.toNat (IntKind.i64.wrap (Int.fdiv (IntKind.u64.wrap (IntKind.i64.wrap (start20 + r21))) (2 ^ (min (Int.toNat (1 : Int)) 64))))) (e_api_Edge (List.getD data0 (Int.toNat (IntKind.i64.wrap (Int.fdiv (IntKind.u64.wrap (IntKind.i64.wrap (start20 + r21))) (2 ^ (min (Int.toNat (1 : Int)) 64))))) default)) (e_api_Edge (List.getD data0 (Int.toNat (IntKind.i64.wrap (Int.fdiv (IntKind.u64.wrap (IntKind.i64.wrap (start20 + r21))) (2 ^ (min (Int.toNat (1 : Int)) 64))))) default)) (List.map e_api_Edge data0) (by kernel_rfl) (by kernel_rfl) (by kernel_rfl) (by kernel_rfl) hO (by kernel_rfl) (ownGet c17) ?_
          obtain ⟨x18, hx19, h1⟩ := bindE h1
          refine D_callO cmp4_f (cmp4_a ++ [(e_api_Edge (List.getD data0 (Int.toNat (IntKind.i64.wrap (p22 - (IntKind.i64.wrap (Int.fdiv (IntKind.u64.wrap (IntKind.i64.wrap (start20 + r21))) (2 ^ (min (Int.toNat (1 : Int)) 64))))))) default)), (e_api_Edge (List.getD data0 (Int.toNat (IntKind.i64.wrap (Int.fdiv (IntKind.u64.wrap (IntKind.i64.wrap (start20 + r21))) (2 ^ (min (Int.toNat (1 : Int)) 64))))) default))] ++ cmp4_c) (eInt .i64 x18) (by kernel_rfl) (by kernel_rfl) (cmp4_h (List.getD data0 (Int.toNat (IntKind.i64.wrap (p22 - (IntKind.i64.wrap (Int.fdiv (IntKind.u64.wrap (IntKind.i64.wrap (start20 + r21))) (2 ^ (min (Int.toNat (1 : Int)) 64))))))) default) (List.getD data0 (Int.toNat (IntKind.i64.wrap (Int.fdiv (IntKind.u64.wrap (IntKind.i64.wrap (start20 + r21))) (2 ^ (min (Int.toNat (1 : Int)) 64))))) default) _ hx19) hO ?_
          intro H hO
          refine D_al ?_
          refine E_tn [(0, (.msl 3 lo0p 0 (List.length data0))), (1, (eInt .i64 a1)), (2, (eInt .i64 m2)), (3, (eInt .i64 b3)), (4, (.fn (.func cmp4_f) cmp4_a cmp4_c)), (18, (eInt .i64 mid18)), (19, (eInt .i64 n19)), (20, (eInt .i64 start20)), (21, (eInt .i64 r21)), (22, (eInt .i64 p22)), (23, (eInt .i64 (IntKind.i64.wrap (Int.fdiv (IntKind.u64.wrap (IntKind.i64.wrap (start20 + r21))) (2 ^ (min (Int.toNat (1 : Int)) 64)))))), (171, (eBool (!(decide (x18 < (0 : Int))))))] ?_
          refine C_cn (!(decide (x18 < (0 : Int)))) (fun hc21 => ?_) (fun hc21 => ?_)
          · replace h1 := condT hc21 h1
            refine C_rg ttOk 3 ?_
            refine R_al ?_
            refine E_hk [(0, (.msl 3 lo0p 0 (List.length data0))), (1, (eInt .i64 a1)), (2, (eInt .i64 m2)), (3, (eInt .i64 b3)), (4, (.fn (.func cmp4_f) cmp4_a cmp4_c)), (18, (eInt .i64 mid18)), (19, (eInt .i64 n19)), (20, (eInt .i64 (IntKind.i64.wrap ((IntKind.i64.wrap (Int.fdiv (IntKind.u64.wrap (IntKind.i64.wrap (start20 + r21))) (2 ^ (min (Int.toNat (1 : Int)) 64)))) + (1 : Int))))), (21, (eInt .i64 r21)), (22, (eInt .i64 p22))] ?_
            exact E_done (blockA_normal (thenA_normal (⟨rfl, (data0, IntKind.i64.wrap ((IntKind.i64.wrap (Int.fdiv (IntKind.u64.wrap (IntKind.i64.wrap (start20 + r21))) (2 ^ (min (Int.toNat (1 : Int)) 64)))) + (1 : Int)), r21), (Option.some.inj h1).symm, .eq (by kernel_rfl), hO, hN⟩)))
          replace h1 := condF hc21 h1
          refine C_rg ttOk 2 ?_
          refine R_al ?_
          refine E_hk [(0, (.msl 3 lo0p 0 (List.length data0))), (1, (eInt .i64 a1)), (2, (eInt .i64 m2)), (3, (eInt .i64 b3)), (4, (.fn (.func cmp4_f) cmp4_a cmp4_c)), (18, (eInt .i64 mid18)), (19, (eInt .i64 n19)), (20, (eInt .i64 start20)), (21, (eInt .i64 (IntKind.i64.wrap (Int.fdiv (IntKind.u64.wrap (IntKind.i64.wrap (start20 + r21))) (2 ^ (min (Int.toNat (1 : Int)) 64)))))), (22, (eInt .i64 p22))] ?_
          exact E_done (blockA_normal (thenA_normal (⟨rfl, (data0, start20, IntKind.i64.wrap (Int.fdiv (IntKind.u64.wrap (IntKind.i64.wrap (start20 + r21))) (2 ^ (min (Int.toNat (1 : Int)) 64)))), (Option.some.inj h1).symm, .eq (by kernel_rfl), hO, hN⟩)))
        replace h1 := condF hc14 h1
        refine C_ex 8 ?_
        refine E_hk [(0, (.msl 3 lo0p 0 (List.length data0))), (1, (eInt .i64 a1)), (2, (eInt .i64 m2)), (3, (eInt .i64 b3)), (4, (.fn (.func cmp4_f) cmp4_a cmp4_c)), (18, (eInt .i64 mid18)), (19, (eInt .i64 n19)), (20, (eInt .i64 start20))] ?_
        obtain rfl := Option.some.inj h1
        obtain rfl : _ = rr0 := ho0
        replace h0 : slices_symMergeCmpFunc_api_Edge_j4 cmp4 rec data0 a1 m2 b3 mid18 n19 start20 = some r := h0
        exact E_done (thenA_exit (thenA_exit (blockA_hit (thenA_normal (⟨rfl, data0, start20, .eq (by kernel_rfl), hO, hN, h0⟩)))))
      refine C_sq ?_
      refine C_rg ttOk 3 ?_
      refine R_al ?_
      refine E_tn [(0, (.msl 3 lo0p 0 (List.length data0))), (1, (eInt .i64 a1)), (2, (eInt .i64 m2)), (3, (eInt .i64 b3)), (4, (.fn (.func cmp4_f) cmp4_a cmp4_c)), (18, (eInt .i64 (IntKind.i64.wrap (Int.fdiv (IntKind.u64.wrap (IntKind.i64.wrap (a1 + b3))) (2 ^ (min (Int.toNat (1 : Int)) 64)))))), (19, (eInt .i64 (IntKind.i64.wrap ((IntKind.i64.wrap (Int.fdiv (IntKind.u64.wrap (IntKind.i64.wrap (a1 + b3))) (2 ^ (min (Int.toNat (1 : Int)) 64)))) + m2)))), (140, (eBool (decide ((IntKind.i64.wrap (Int.fdiv (IntKind.u64.wrap (IntKind.i64.wrap (a1 + b3))) (2 ^ (min (Int.toNat (1 : Int)) 64)))) < m2))))] ?_
      refine C_cn (decide ((IntKind.i64.wrap (Int.fdiv (IntKind.u64.wrap (IntKind.i64.wrap (a1 + b3))) (2 ^ (min (Int.toNat (1 : Int)) 64)))) < m2)) (fun hc22 => ?_) (fun hc22 => ?_)
      · replace h0 := condT hc22 h0
        refine C_sq ?_
        refine C_rg ttOk 4 ?_
        refine R_al ?_
        refine E_tn [(0, (.msl 3 lo0p 0 (List.length data0))), (1, (eInt .i64 a1)), (2, (eInt .i64 m2)), (3, (eInt .i64 b3)), (4, (.fn (.func cmp4_f) cmp4_a cmp4_c)), (18, (eInt .i64 (IntKind.i64.wrap (Int.fdiv (IntKind.u64.wrap (IntKind.i64.wrap (a1 + b3))) (2 ^ (min (Int.toNat (1 : Int)) 64)))))), (19, (eInt .i64 (IntKind.i64.wrap ((IntKind.i64.wrap (Int.fdiv (IntKind.u64.wrap (IntKind.i64.wrap (a1 + b3))) (2 ^ (min (Int.toNat (1 : Int)) 64)))) + m2)))), (20, (eInt .i64 (IntKind.i64.wrap ((IntKind.i64.wrap ((IntKind.i64.wrap (Int.fdiv (IntKind.u64.wrap (IntKind.i64.wrap (a1 + b3))) (2 ^ (min (Int.toNat (1 : Int)) 64)))) + m2)) - b3))))] ?_
        refine C_rg ttOk 2 ?_
        refine R_al ?_
        refine E_hk [(0, (.msl 3 lo0p 0 (List.length data0))), (1, (eInt .i64 a1)), (2, (eInt .i64 m2)), (3, (eInt .i64 b3)), (4, (.fn (.func cmp4_f) cmp4_a cmp4_c)), (18, (eInt .i64 (IntKind.i64.wrap (Int.fdiv (IntKind.u64.wrap (IntKind.i64.wrap (a1 + b3))) (2 ^ (min (Int.toNat (1 : Int)) 64)))))), (19, (eInt .i64 (IntKind.i64.wrap ((IntKind.i64.wrap (Int.fdiv (IntKind.u64.wrap (IntKind.i64.wrap (a1 + b3))) (2 ^ (min (Int.toNat (1 : Int)) 64)))) + m2)))), (20, (eInt .i64 (IntKind.i64.wrap ((IntKind.i64.wrap ((IntKind.i64.wrap (Int.fdiv (IntKind.u64.wrap (IntKind.i64.wrap (a1 + b3))) (2 ^ (min (Int.toNat (1 : Int)) 64)))) + m2)) - b3)))), (21, (eInt .i64 (IntKind.i64.wrap (Int.fdiv (IntKind.u64.wrap (IntKind.i64.wrap (a1 + b3))) (2 ^ (min (Int.toNat (1 : Int)) 64))))))] ?_
        exact E_done (thenA_normal (⟨rfl, data0, IntKind.i64.wrap (Int.fdiv (IntKind.u64.wrap (IntKind.i64.wrap (a1 + b3))) (2 ^ (min (Int.toNat (1 : Int)) 64))), IntKind.i64.wrap ((IntKind.i64.wrap (Int.fdiv (IntKind.u64.wrap (IntKind.i64.wrap (a1 + b3))) (2 ^ (min (Int.toNat (1 : Int)) 64)))) + m2), IntKind.i64.wrap ((IntKind.i64.wrap ((IntKind.i64.wrap (Int.fdiv (IntKind.u64.wrap (IntKind.i64.wrap (a1 + b3))) (2 ^ (min (Int.toNat (1 : Int)) 64)))) + m2)) - b3), IntKind.i64.wrap (Int.fdiv (IntKind.u64.wrap (IntKind.i64.wrap (a1 + b3))) (2 ^ (min (Int.toNat (1 : Int)) 64))), .eq (by kernel_rfl), hO, hN, h0⟩))
      replace h0 := condF hc22 h0
      refine C_sq ?_
      refine C_rg ttOk 2 ?_
      refine R_al ?_
      refine E_tn [(0, (.msl 3 lo0p 0 (List.length data0))), (1, (eInt .i64 a1)), (2, (eInt .i64 m2)), (3, (eInt .i64 b3)), (4, (.fn (.func cmp4_f) cmp4_a cmp4_c)), (18, (eInt .i64 (IntKind.i64.wrap (Int.fdiv (IntKind.u64.wrap (IntKind.i64.wrap (a1 + b3))) (2 ^ (min (Int.toNat (1 : Int)) 64)))))), (19, (eInt .i64 (IntKind.i64.wrap ((IntKind.i64.wrap (Int.fdiv (IntKind.u64.wrap (IntKind.i64.wrap (a1 + b3))) (2 ^ (min (Int.toNat (1 : Int)) 64)))) + m2)))), (20, (eInt .i64 a1))] ?_
      refine C_rg ttOk 2 ?_
      refine R_al ?_
      refine E_hk [(0, (.msl 3 lo0p 0 (List.length data0))), (1, (eInt .i64 a1)), (2, (eInt .i64 m2)), (3, (eInt .i64 b3)), (4, (.fn (.func cmp4_f) cmp4_a cmp4_c)), (18, (eInt .i64 (IntKind.i64.wrap (Int.fdiv (IntKind.u64.wrap (IntKind.i64.wrap (a1 + b3))) (2 ^ (min (Int.toNat (1 : Int)) 64)))))), (19, (eInt .i64 (IntKind.i64.wrap ((IntKind.i64.wrap (Int.fdiv (IntKind.u64.wrap (IntKind.i64.wrap (a1 + b3))) (2 ^ (min (Int.toNat (1 : Int)) 64)))) + m2)))), (20, (eInt .i64 a1)), (21, (eInt .i64 m2))] ?_
      exact E_done (thenA_normal (⟨rfl, data0, IntKind.i64.wrap (Int.fdiv (IntKind.u64.wrap (IntKind.i64.wrap (a1 + b3))) (2 ^ (min (Int.toNat (1 : Int)) 64))), IntKind.i64.wrap ((IntKind.i64.wrap (Int.fdiv (IntKind.u64.wrap (IntKind.i64.wrap (a1 + b3))) (2 ^ (min (Int.toNat (1 : Int)) 64)))) + m2), a1, m2, .eq (by kernel_rfl), hO, hN, h0⟩))
    refine C_sq ?_
    refine C_rg ttOk 4 ?_
    refine R_al ?_
    refine E_tn [(0, (.msl 3 lo0p 0 (List.length data0))), (1, (eInt .i64 a1)), (2, (eInt .i64 m2)), (3, (eInt .i64 b3)), (4, (.fn (.func cmp4_f) cmp4_a cmp4_c)), (80, (eBool (decide ((IntKind.i64.wrap (b3 - m2)) = (1 : Int)))))] ?_
    refine C_cn (decide ((IntKind.i64.wrap (b3 - m2)) = (1 : Int))) (fun hc23 => ?_) (fun hc23 => ?_)
    · replace h0 := condT hc23 h0
      refine C_sq ?_
      refine C_rg ttOk 2 ?_
      refine R_al ?_
      refine E_tn [(0, (.msl 3 lo0p 0 (List.length data0))), (2, (eInt .i64 m2)), (4, (.fn (.func cmp4_f) cmp4_a cmp4_c)), (14, (eInt .i64 a1))] ?_
      refine C_sq ?_
      refine C_rg ttOk 2 ?_
      refine R_al ?_
      refine E_tn [(0, (.msl 3 lo0p 0 (List.length data0))), (2, (eInt .i64 m2)), (4, (.fn (.func cmp4_f) cmp4_a cmp4_c)), (14, (eInt .i64 a1)), (15, (eInt .i64 m2))] ?_
      refine C_seqJ (by kernel_rfl) (fun T H => ∃ data0 : List api_Edge, ∃ i14 : Int, Has T [(0, (.msl 3 lo0p 0 (List.length data0))), (2, (eInt .i64 m2)), (14, (eInt .i64 i14))] ∧ Owns ⟨H0, [lo0p], []⟩ H [(lo0p, 3, List.map e_api_Edge data0)] ∧ List.length data0 = N0 ∧ slices_symMergeCmpFunc_api_Edge_j8 cmp4 rec data0 m2 i14 = some r) ?_ ?_
      · clear hO hN h0
        rintro T H ⟨data0, i14, hT, hO, hN, h0⟩
        refine C_has hT ?_
        clear hT
        unfold slices_symMergeCmpFunc_api_Edge_j8 at h0
        refine C_seqJ (by kernel_rfl) (fun T H => ∃ data0 : List api_Edge, Has T [(0, (.msl 3 lo0p 0 (List.length data0)))] ∧ Owns ⟨H0, [lo0p], []⟩ H [(lo0p, 3, List.map e_api_Edge data0)] ∧ List.length data0 = N0 ∧ slices_symMergeCmpFunc_api_Edge_j9 cmp4 rec data0 = some r) ?_ ?_
        · clear hO hN h0
          rintro T H ⟨data0, hT, hO, hN, h0⟩
          refine C_has hT ?_
          clear hT
          unfold slices_symMergeCmpFunc_api_Edge_j9 at h0
          refine C_rt ?_
          refine E_hk [(0, (.msl 3 lo0p 0 (List.length data0)))] ?_
          obtain rfl := Option.some.inj h0
          exact E_done (thenA_ret (Q_ret (x := (.tup [])) (by kernel_rfl) (SubV.refl _) ⟨rfl, hO.ext, hO.at 0 (by kernel_rfl), by simp only [List.length_map]; exact hN.trans hN0⟩))
        refine C_sq ?_
        refine C_rg ttOk 2 ?_
        refine R_al ?_
        refine E_tn [(0, (.msl 3 lo0p 0 (List.length data0))), (14, (eInt .i64 i14)), (17, (eInt .i64 m2))] ?_
        refine C_bk 6 ?_
        refine C_hk [(0, (.msl 3 lo0p 0 (List.length data0))), (14, (eInt .i64 i14)), (17, (eInt .i64 m2))] ?_
        refine C_cut (fun T H => ∃ data0 : List api_Edge, ∃ k17 : Int, Has T [(0, (.msl 3 lo0p 0 (List.length data0))), (14, (eInt .i64 i14)), (17, (eInt .i64 k17))] ∧ Owns ⟨H0, [lo0p], []⟩ H [(lo0p, 3, List.map e_api_Edge data0)] ∧ List.length data0 = N0 ∧ slices_symMergeCmpFunc_api_Edge_h10 cmp4 rec data0 i14 k17 = some r) ?_ ⟨data0, m2, .eq (by kernel_rfl), hO, hN, h0⟩
        clear hO hN h0
        rintro T H ⟨data0, k17, hT, hO, hN, h0⟩
        refine C_has hT ?_
        clear hT
        unfold slices_symMergeCmpFunc_api_Edge_h10 at h0
        obtain ⟨rr0, hl0, h0⟩ := bindE h0
        refine C_loopS (by kernel_rfl) (fun (s : List api_Edge × Int) T H => Has T [(0, (.msl 3 lo0p 0 (List.length s.1))), (14, (eInt .i64 i14)), (17, (eInt .i64 s.2))] ∧ Owns ⟨H0, [lo0p], []⟩ H [(lo0p, 3, List.map e_api_Edge s.1)] ∧ List.length s.1 = N0) hl0 ⟨.eq (by kernel_rfl), hO, hN⟩ ?_
        clear hO hN
        rintro k0 s out1 T H ⟨hT, hO, hN⟩ h1 ho0
        obtain ⟨data0, k17⟩ := s
        replace h1 : slices_symMergeCmpFunc_api_Edge_l10 cmp4 rec i14 data0 k17 = some out1 := h1
        refine C_has (l := [(0, (.msl 3 lo0p 0 (List.length data0))), (14, (eInt .i64 i14)), (17, (eInt .i64 k17))]) hT ?_
        clear hT
        unfold slices_symMergeCmpFunc_api_Edge_l10 at h1
        refine C_sq ?_
        refine C_sq ?_
        refine C_rg ttOk 3 ?_
        refine R_al ?_
        refine E_tn [(0, (.msl 3 lo0p 0 (List.length data0))), (14, (eInt .i64 i14)), (17, (eInt .i64 k17)), (110, (eBool (decide (i14 < k17))))] ?_
        refine C_cn (decide (i14 < k17)) (fun hc24 => ?_) (fun hc24 => ?_)
        · replace h1 := condT hc24 h1
          refine C_sk ?_
          refine E_tn [(0, (.msl 3 lo0p 0 (List.length data0))), (14, (eInt .i64 i14)), (17, (eInt .i64 k17))] ?_
          refine C_sq ?_
          refine C_bk 7 ?_
          refine A_cl (C_draw (pl := plOf []) ttOk (by kernel_rfl) (n := 18) (by kernel_rfl) (by kernel_rfl) (by kernel_rfl) ?_)
          obtain ⟨c25, h1⟩ := asrtE h1
          refine D_pure 9 (by kernel_rfl) (Ds := [0 ≤ (IntKind.i64.wrap (k17 - (1 : Int))) ∧ (IntKind.i64.wrap (k17 - (1 : Int))) < ((List.length data0 : Nat) : Int)]) (by kernel_rfl) ⟨c25, trivial⟩ ?_
          refine D_loadO 0 lo0p 3 (0 + Int.toNat (IntKind.i64.wrap (k17 - (1 : Int)))) (e_api_Edge (List.getD data0 (Int.toNat (IntKind.i64.wrap (k17 - (1 : Int)))) default)) (e_api_Edge (List.getD data0 (Int.toNat (IntKind.i64.wrap (k17 - (1 : Int)))) default)) (List.map e_api_Edge data0) (by kernel_rfl) (by kernel_rfl) (by kernel_rfl) (by kernel_rfl) hO (by kernel_rfl) (ownGet c25) ?_
          obtain ⟨c26, h1⟩ := asrtE h1
          refine D_pure 13 (by kernel_rfl) (Ds := [0 ≤ k17 ∧ k17 < ((List.length data0 : Nat) : Int)]) (by kernel_rfl) ⟨c26, trivial⟩ ?_
          refine D_loadO 0 lo0p 3 (0 + Int.toNat k17) (e_api_Edge (List.getD data0 (Int.toNat k17) default)) (e_api_Edge (List.getD data0 (Int.toNat k17) default)) (List.map e_api_Edge data0) (by kernel_rfl) (by kernel_rfl) (by kernel_rfl) (by kernel_rfl) hO (by kernel_rfl) (ownGet c26) ?_
          obtain ⟨c27, h1⟩ := asrtE h1
          refine D_pure 15 (by kernel_rfl) (Ds := [0 ≤ k17 ∧ k17 < ((List.length data0 : Nat) : Int)]) (by kernel_rfl) ⟨c27, trivial⟩ ?_
          refine D_storeO 0 lo0p 3 (0 + Int.toNat k17) (e_api_Edge (List.getD data0 (Int.toNat k17) default)) (e_api_Edge (List.getD data0 (Int.toNat (IntKind.i64.wrap (k17 - (1 : Int)))) default)) (List.map e_api_Edge data0) [(lo0p, 3, List.map e_api_Edge (List.set data0 (Int.toNat k17) (List.getD data0 (Int.toNat (IntKind.i64.wrap (k17 - (1 : Int)))) default)))] (by kernel_rfl) (by kernel_rfl) (by kernel_rfl) hO (by kernel_rfl) (ownGet c27) (by simp only [List.set, ownSet]) ?_
          intro H hO
          replace hN : List.length (List.set data0 (Int.toNat k17) (List.getD data0 (Int.toNat (IntKind.i64.wrap (k17 - (1 : Int)))) default)) = N0 := by simpa using hN
          obtain ⟨c28, h1⟩ := asrtE h1
          refine D_pure 17 (by kernel_rfl) (Ds := [0 ≤ (IntKind.i64.wrap (k17 - (1 : Int))) ∧ (IntKind.i64.wrap (k17 - (1 : Int))) < ((List.length data0 : Nat) : Int)]) (by kernel_rfl) ⟨c28, trivial⟩ ?_
          refine D_storeO 0 lo0p 3 (0 + Int.toNat (IntKind.i64.wrap (k17 - (1 : Int)))) (e_api_Edge (List.getD (List.set data0 (Int.toNat k17) (List.getD data0 (Int.toNat (IntKind.i64.wrap (k17 - (1 : Int)))) default)) (Int.toNat (IntKind.i64.wrap (k17 - (1 : Int)))) default)) (e_api_Edge (List.getD data0 (Int.toNat k17) default)) (List.map e_api_Edge (List.set data0 (Int.toNat k17) (List.getD data0 (Int.toNat (IntKind.i64.wrap (k17 - (1 : Int)))) default))) [(lo0p, 3, List.map e_api_Edge (List.set (List.set data0 (Int.toNat k17) (List.getD data0 (Int.toNat (IntKind.i64.wrap (k17 - (1 : Int)))) default)) (Int.toNat (IntKind.i64.wrap (k17 - (1 : Int)))) (List.getD data0 (Int.toNat k17) default)))] (by kernel_rfl) (by kernel_rfl) (by kernel_rfl) hO (by kernel_rfl) (ownGetN c28 (by simp [])) (by simp only [List.set, ownSet]) ?_
          intro H hO
          replace hN : List.length (List.set (List.set data0 (Int.toNat k17) (List.getD data0 (Int.toNat (IntKind.i64.wrap (k17 - (1 : Int)))) default)) (Int.toNat (IntKind.i64.wrap (k17 - (1 : Int)))) (List.getD data0 (Int.toNat k17) default)) = N0 := by simpa using hN
          refine D_end (by kernel_rfl) ?_
          refine E_has (l := [(0, (.msl 3 lo0p 0 (List.length (List.set (List.set data0 (Int.toNat k17) (List.getD data0 (Int.toNat (IntKind.i64.wrap (k17 - (1 : Int)))) default)) (Int.toNat (IntKind.i64.wrap (k17 - (1 : Int)))) (List.getD data0 (Int.toNat k17) default))))), (14, (eInt .i64 i14)), (17, (eInt .i64 k17))]) ⟨[(0, (.msl 3 lo0p 0 (List.length data0))), (14, (eInt .i64 i14)), (17, (eInt .i64 k17))], by kernel_rfl, rfl, ⟨SubV.eq (by simp []), SubV.refl _, SubV.refl _, trivial⟩⟩ ?_
          refine E_done (blockA_normal (thenA_normal (?_)))
          refine C_rg ttOk 3 ?_
          refine R_al ?_
          refine E_hk [(0, (.msl 3 lo0p 0 (List.length (List.set (List.set data0 (Int.toNat k17) (List.getD data0 (Int.toNat (IntKind.i64.wrap (k17 - (1 : Int)))) default)) (Int.toNat (IntKind.i64.wrap (k17 - (1 : Int)))) (List.getD data0 (Int.toNat k17) default))))), (14, (eInt .i64 i14)), (17, (eInt .i64 (IntKind.i64.wrap (k17 - (1 : Int)))))] ?_
          exact E_done (thenA_normal (⟨rfl, (List.set (List.set data0 (Int.toNat k17) (List.getD data0 (Int.toNat (IntKind.i64.wrap (k17 - (1 : Int)))) default)) (Int.toNat (IntKind.i64.wrap (k17 - (1 : Int)))) (List.getD data0 (Int.toNat k17) default), IntKind.i64.wrap (k17 - (1 : Int))), (Option.some.inj h1).symm, .eq (by kernel_rfl), hO, hN⟩))
        replace h1 := condF hc24 h1
        refine C_ex 6 ?_
        refine E_hk [(0, (.msl 3 lo0p 0 (List.length data0)))] ?_
        obtain rfl := Option.some.inj h1
        obtain rfl : _ = rr0 := ho0
        replace h0 : slices_symMergeCmpFunc_api_Edge_j9 cmp4 rec data0 = some r := h0
        exact E_done (thenA_exit (thenA_exit (blockA_hit (thenA_normal (⟨rfl, data0, .eq (by kernel_rfl), hO, hN, h0⟩)))))
      refine C_bk 4 ?_
      refine C_hk [(0, (.msl 3 lo0p 0 (List.length data0))), (2, (eInt .i64 m2)), (4, (.fn (.func cmp4_f) cmp4_a cmp4_c)), (14, (eInt .i64 a1)), (15, (eInt .i64 m2))] ?_
      refine C_cut (fun T H => ∃ data0 : List api_Edge, ∃ i14 : Int, ∃ j15 : Int, Has T [(0, (.msl 3 lo0p 0 (List.length data0))), (2, (eInt .i64 m2)), (4, (.fn (.func cmp4_f) cmp4_a cmp4_c)), (14, (eInt .i64 i14)), (15, (eInt .i64 j15))] ∧ Owns ⟨H0, [lo0p], []⟩ H [(lo0p, 3, List.map e_api_Edge data0)] ∧ List.length data0 = N0 ∧ slices_symMergeCmpFunc_api_Edge_h11 cmp4 rec data0 m2 i14 j15 = some r) ?_ ⟨data0, a1, m2, .eq (by kernel_rfl), hO, hN, h0⟩
      clear hO hN h0
      rintro T H ⟨data0, i14, j15, hT, hO, hN, h0⟩
      refine C_has hT ?_
      clear hT
      unfold slices_symMergeCmpFunc_api_Edge_h11 at h0
      obtain ⟨rr0, hl0, h0⟩ := bindE h0
      refine C_loopS (by kernel_rfl) (fun (s : List api_Edge × Int × Int) T H => Has T [(0, (.msl 3 lo0p 0 (List.length s.1))), (2, (eInt .i64 m2)), (4, (.fn (.func cmp4_f) cmp4_a cmp4_c)), (14, (eInt .i64 s.2.1)), (15, (eInt .i64 s.2.2))] ∧ Owns ⟨H0, [lo0p], []⟩ H [(lo0p, 3, List.map e_api_Edge s.1)] ∧ List.length s.1 = N0) hl0 ⟨.eq (by kernel_rfl), hO, hN⟩ ?_
      clear hO hN
      rintro k0 s out1 T H ⟨hT, hO, hN⟩ h1 ho0
      obtain ⟨data0, i14, j15⟩ := s
      replace h1 : slices_symMergeCmpFunc_api_Edge_l11 cmp4 rec m2 data0 i14 j15 = some out1 := h1
      refine C_has (l := [(0, (.msl 3 lo0p 0 (List.length data0))), (2, (eInt .i64 m2)), (4, (.fn (.func cmp4_f) cmp4_a cmp4_c)), (14, (eInt .i64 i14)), (15, (eInt .i64 j15))]) hT ?_
      clear hT
      unfold slices_symMergeCmpFunc_api_Edge_l11 at h1
      refine C_sq ?_
      refine C_sq ?_
      refine C_rg ttOk 3 ?_
      refine R_al ?_
      refine E_tn [(0, (.msl 3 lo0p 0 (List.length data0))), (2, (eInt .i64 m2)), (4, (.fn (.func cmp4_f) cmp4_a cmp4_c)), (14, (eInt .i64 i14)), (15, (eInt .i64 j15)), (85, (eBool (decide (i14 < j15))))] ?_
      refine C_cn (decide (i14 < j15)) (fun hc29 => ?_) (fun hc29 => ?_)
      · replace h1 := condT hc29 h1
        refine C_sk ?_
        refine E_tn [(0, (.msl 3 lo0p 0 (List.length data0))), (2, (eInt .i64 m2)), (4, (.fn (.func cmp4_f) cmp4_a cmp4_c)), (14, (eInt .i64 i14)), (15, (eInt .i64 j15))] ?_
        refine C_bk 5 ?_
        refine C_sq ?_
        refine C_rg ttOk 7 ?_
        obtain ⟨c30, h1⟩ := asrtE h1
        refine R_all (Ds := [0 ≤ (1 : Int)]) (by kernel_rfl) ⟨c30, trivial⟩ ?_
        refine E_tn [(0, (.msl 3 lo0p 0 (List.length data0))), (2, (eInt .i64 m2)), (4, (.fn (.func cmp4_f) cmp4_a cmp4_c)), (14, (eInt .i64 i14)), (15, (eInt .i64 j15)), (16, (eInt .i64 (IntKind.i64.wrap (Int.fdiv (IntKind.u64.wrap (IntKind.i64.wrap (i14 + j15))) (2 ^ (min (Int.toNat (1 : Int)) 64))))))] ?_
        refine C_sq ?_
        refine A_cl (C_draw (pl := plOf []) ttOk (by kernel_rfl) (n := 12) (by kernel_rfl) (by kernel_rfl) (by kernel_rfl) ?_)
        obtain ⟨c31, h1⟩ := asrtE h1
        refine D_pure 4 (by kernel_rfl) (Ds := [0 ≤ m2 ∧ m2 < ((List.length data0 : Nat) : Int)]) (by kernel_rfl) ⟨c31, trivial⟩ ?_
        refine D_loadO 0 lo0p 3 (0 + Int.toNat m2) (e_api_Edge (List.getD data0 (Int.toNat m2) default)) (e_api_Edge (List.getD data0 (Int.toNat m2) default)) (List.map e_api_Edge data0) (by kernel_rfl) (by kernel_rfl) (by kernel_rfl) (by kernel_rfl) hO (by kernel_rfl) (ownGet c31) ?_
        obtain ⟨c32, h1⟩ := asrtE h1
        refine D_pure 8 (by kernel_rfl) (Ds := [0 ≤ (IntKind.i64.wrap (Int.fdiv (IntKind.u64.wrap (IntKind.i64.wrap (i14 + j15))) (2 ^ (min (Int.toNat (1 : Int)) 64)))) ∧ (IntKind.i64.wrap (Int.fdiv (IntKind.u64.wrap (IntKind.i64.wrap (i14 + j15))) (2 ^ (min (Int.toNat (1 : Int)) 64)))) < ((List.length data0 : Nat) : Int)]) (by kernel_rfl) ⟨c32, trivial⟩ ?_
        refine D_loadO 0 lo0p 3 (0 + Int.toNat (IntKind.i64.wrap (Int.fdiv (IntKind.u64.wrap (IntKind.i64.wrap (i14 + j15))) (2 ^ (min (Int.toNat (1 : Int)) 64))))) (e_api_Edge (List.getD data0 (Int.toNat (IntKind.i64.wrap (Int.fdiv (IntKind.u64.wrap (IntKind.i64.wrap (i14 + j15))) (2 ^ (min (Int.toNat (1 : Int)) 64))))) default)) (e_api_Edge (List.getD data0 (Int.toNat (IntKind.i64.wrap (Int.fdiv (IntKind.u64.wrap (IntKind.i64.wrap (i14 + j15))) (2 ^ (min (Int.toNat (1 : Int)) 64))))) default)) (List.map e_api_Edge data0) (by kernel_rfl) (by kernel_rfl) (by kernel_rfl) (by kernel_rfl) hO (by kernel_rfl) (ownGet c32) ?_
        obtain ⟨x33, hx34, h1⟩ := bindE h1
        refine D_callO cmp4_f (cmp4_a ++ [(e_api_Edge (List.getD data0 (Int.toNat m2) default)), (e_api_Edge (List.getD data0 (Int.toNat (IntKind.i64.wrap (Int.fdiv (IntKind.u64.wrap (IntKind.i64.wrap (i14 + j15))) (2 ^ (min (Int.toNat (1 : Int)) 64))))) default))] ++ cmp4_c) (eInt .i64 x33) (by kernel_rfl) (by kernel_rfl) (cmp4_h (List.getD data0 (Int.toNat m2) default) (List.getD data0 (Int.toNat (IntKind.i64.wrap (Int.fdiv (IntKind.u64.wrap (IntKind.i64.wrap (i14 + j15))) (2 ^ (min (Int.toNat (1 : Int)) 64))))) default) _ hx34) hO ?_
        intro H hO
        refine D_al ?_
        refine E_tn [(0, (.msl 3 lo0p 0 (List.length data0))), (2, (eInt .i64 m2)), (4, (.fn (.func cmp4_f) cmp4_a cmp4_c)), (14, (eInt .i64 i14)), (15, (eInt .i64 j15)), (16, (eInt .i64 (IntKind.i64.wrap (Int.fdiv (IntKind.u64.wrap (IntKind.i64.wrap (i14 + j15))) (2 ^ (min (Int.toNat (1 : Int)) 64)))))), (103, (eBool (!(decide (x33 < (0 : Int))))))] ?_
        refine C_cn (!(decide (x33 < (0 : Int)))) (fun hc36 => ?_) (fun hc36 => ?_)
        · replace h1 := condT hc36 h1
          refine C_rg ttOk 3 ?_
          refine R_al ?_
          refine E_hk [(0, (.msl 3 lo0p 0 (List.length data0))), (2, (eInt .i64 m2)), (4, (.fn (.func cmp4_f) cmp4_a cmp4_c)), (14, (eInt .i64 (IntKind.i64.wrap ((IntKind.i64.wrap (Int.fdiv (IntKind.u64.wrap (IntKind.i64.wrap (i14 + j15))) (2 ^ (min (Int.toNat (1 : Int)) 64)))) + (1 : Int))))), (15, (eInt .i64 j15))] ?_
          exact E_done (blockA_normal (thenA_normal (⟨rfl, (data0, IntKind.i64.wrap ((IntKind.i64.wrap (Int.fdiv (IntKind.u64.wrap (IntKind.i64.wrap (i14 + j15))) (2 ^ (min (Int.toNat (1 : Int)) 64)))) + (1 : Int)), j15), (Option.some.inj h1).symm, .eq (by kernel_rfl), hO, hN⟩)))
        replace h1 := condF hc36 h1
        refine C_rg ttOk 2 ?_
        refine R_al ?_
        refine E_hk [(0, (.msl 3 lo0p 0 (List.length data0))), (2, (eInt .i64 m2)), (4, (.fn (.func cmp4_f) cmp4_a cmp4_c)), (14, (eInt .i64 i14)), (15, (eInt .i64 (IntKind.i64.wrap (Int.fdiv (IntKind.u64.wrap (IntKind.i64.wrap (i14 + j15))) (2 ^ (min (Int.toNat (1 : Int)) 64))))))] ?_
        exact E_done (blockA_normal (thenA_normal (⟨rfl, (data0, i14, IntKind.i64.wrap (Int.fdiv (IntKind.u64.wrap (IntKind.i64.wrap (i14 + j15))) (2 ^ (min (Int.toNat (1 : Int)) 64)))), (Option.some.inj h1).symm, .eq (by kernel_rfl), hO, hN⟩)))
      replace h1 := condF hc29 h1
      refine C_ex 4 ?_
      refine E_hk [(0, (.msl 3 lo0p 0 (List.length data0))), (2, (eInt .i64 m2)), (14, (eInt .i64 i14))] ?_
      obtain rfl := Option.some.inj h1
      obtain rfl : _ = rr0 := ho0
      replace h0 : slices_symMergeCmpFunc_api_Edge_j8 cmp4 rec data0 m2 i14 = some r := h0
      exact E_done (thenA_exit (thenA_exit (blockA_hit (thenA_normal (⟨rfl, data0, i14, .eq (by kernel_rfl), hO, hN, h0⟩)))))
    replace h0 := condF hc23 h0
    refine C_sk ?_
    refine E_hk [(0, (.msl 3 lo0p 0 (List.length data0))), (1, (eInt .i64 a1)), (2, (eInt .i64 m2)), (3, (eInt .i64 b3)), (4, (.fn (.func cmp4_f) cmp4_a cmp4_c))] ?_
    exact E_done (thenA_normal (⟨rfl, data0, .eq (by kernel_rfl), hO, hN, h0⟩))
  refine C_sq ?_
  refine C_rg ttOk 4 ?_
  refine R_al ?_
  refine E_tn [(0, (.msl 3 lo0p 0 (List.length data0))), (1, (eInt .i64 a1)), (2, (eInt .i64 m2)), (3, (eInt .i64 b3)), (4, (.fn (.func cmp4_f) cmp4_a cmp4_c)), (28, (eBool (decide ((IntKind.i64.wrap (m2 - a1)) = (1 : Int)))))] ?_
  refine C_cn (decide ((IntKind.i64.wrap (m2 - a1)) = (1 : Int))) (fun hc37 => ?_) (fun hc37 => ?_)
  · replace h0 := condT hc37 h0
    refine C_sq ?_
    refine C_rg ttOk 2 ?_
    refine R_al ?_
    refine E_tn [(0, (.msl 3 lo0p 0 (List.length data0))), (1, (eInt .i64 a1)), (3, (eInt .i64 b3)), (4, (.fn (.func cmp4_f) cmp4_a cmp4_c)), (10, (eInt .i64 m2))] ?_
    refine C_sq ?_
    refine C_rg ttOk 2 ?_
    refine R_al ?_
    refine E_tn [(0, (.msl 3 lo0p 0 (List.length data0))), (1, (eInt .i64 a1)), (4, (.fn (.func cmp4_f) cmp4_a cmp4_c)), (10, (eInt .i64 m2)), (11, (eInt .i64 b3))] ?_
    refine C_seqJ (by kernel_rfl) (fun T H => ∃ data0 : List api_Edge, ∃ i10 : Int, Has T [(0, (.msl 3 lo0p 0 (List.length data0))), (1, (eInt .i64 a1)), (10, (eInt .i64 i10))] ∧ Owns ⟨H0, [lo0p], []⟩ H [(lo0p, 3, List.map e_api_Edge data0)] ∧ List.length data0 = N0 ∧ slices_symMergeCmpFunc_api_Edge_j12 cmp4 rec data0 a1 i10 = some r) ?_ ?_
    · clear hO hN h0
      rintro T H ⟨data0, i10, hT, hO, hN, h0⟩
      refine C_has hT ?_
      clear hT
      unfold slices_symMergeCmpFunc_api_Edge_j12 at h0
      refine C_seqJ (by kernel_rfl) (fun T H => ∃ data0 : List api_Edge, Has T [(0, (.msl 3 lo0p 0 (List.length data0)))] ∧ Owns ⟨H0, [lo0p], []⟩ H [(lo0p, 3, List.map e_api_Edge data0)] ∧ List.length data0 = N0 ∧ slices_symMergeCmpFunc_api_Edge_j13 cmp4 rec data0 = some r) ?_ ?_
      · clear hO hN h0
        rintro T H ⟨data0, hT, hO, hN, h0⟩
        refine C_has hT ?_
        clear hT
        unfold slices_symMergeCmpFunc_api_Edge_j13 at h0
        refine C_rt ?_
        refine E_hk [(0, (.msl 3 lo0p 0 (List.length data0)))] ?_
        obtain rfl := Option.some.inj h0
        exact E_done (thenA_ret (Q_ret (x := (.tup [])) (by kernel_rfl) (SubV.refl _) ⟨rfl, hO.ext, hO.at 0 (by kernel_rfl), by simp only [List.length_map]; exact hN.trans hN0⟩))
      refine C_sq ?_
      refine C_rg ttOk 2 ?_
      refine R_al ?_
      refine E_tn [(0, (.msl 3 lo0p 0 (List.length data0))), (10, (eInt .i64 i10)), (13, (eInt .i64 a1))] ?_
      refine C_bk 2 ?_
      refine C_hk [(0, (.msl 3 lo0p 0 (List.length data0))), (10, (eInt .i64 i10)), (13, (eInt .i64 a1))] ?_
      refine C_cut (fun T H => ∃ data0 : List api_Edge, ∃ k13 : Int, Has T [(0, (.msl 3 lo0p 0 (List.length data0))), (10, (eInt .i64 i10)), (13, (eInt .i64 k13))] ∧ Owns ⟨H0, [lo0p], []⟩ H [(lo0p, 3, List.map e_api_Edge data0)] ∧ List.length data0 = N0 ∧ slices_symMergeCmpFunc_api_Edge_h14 cmp4 rec data0 i10 k13 = some r) ?_ ⟨data0, a1, .eq (by kernel_rfl), hO, hN, h0⟩
      clear hO hN h0
      rintro T H ⟨data0, k13, hT, hO, hN, h0⟩
      refine C_has hT ?_
      clear hT
      unfold slices_symMergeCmpFunc_api_Edge_h14 at h0
      obtain ⟨rr0, hl0, h0⟩ := bindE h0
      refine C_loopS (by kernel_rfl) (fun (s : List api_Edge × Int) T H => Has T [(0, (.msl 3 lo0p 0 (List.length s.1))), (10, (eInt .i64 i10)), (13, (eInt .i64 s.2))] ∧ Owns ⟨H0, [lo0p], []⟩ H [(lo0p, 3, List.map e_api_Edge s.1)] ∧ List.length s.1 = N0) hl0 ⟨.eq (by kernel_rfl), hO, hN⟩ ?_
      clear hO hN
      rintro k0 s out1 T H ⟨hT, hO, hN⟩ h1 ho0
      obtain ⟨data0, k13⟩ := s
      replace h1 : slices_symMergeCmpFunc_api_Edge_l14 cmp4 rec i10 data0 k13 = some out1 := h1
      refine C_has (l := [(0, (.msl 3 lo0p 0 (List.length data0))), (10, (eInt .i64 i10)), (13, (eInt .i64 k13))]) hT ?_
      clear hT
      unfold slices_symMergeCmpFunc_api_Edge_l14 at h1
      refine C_sq ?_
      refine C_sq ?_
      refine C_rg ttOk 4 ?_
      refine R_al ?_
      refine E_tn [(0, (.msl 3 lo0p 0 (List.length data0))), (10, (eInt .i64 i10)), (13, (eInt .i64 k13)), (58, (eBool (decide (k13 < (IntKind.i64.wrap (i10 - (1 : Int)))))))] ?_
      refine C_cn (decide (k13 < (IntKind.i64.wrap (i10 - (1 : Int))))) (fun hc38 => ?_) (fun hc38 => ?_)
      · replace h1 := condT hc38 h1
        refine C_sk ?_
        refine E_tn [(0, (.msl 3 lo0p 0 (List.length data0))), (10, (eInt .i64 i10)), (13, (eInt .i64 k13))] ?_
        refine C_sq ?_
        refine C_bk 3 ?_
        refine A_cl (C_draw (pl := plOf []) ttOk (by kernel_rfl) (n := 18) (by kernel_rfl) (by kernel_rfl) (by kernel_rfl) ?_)
        obtain ⟨c39, h1⟩ := asrtE h1
        refine D_pure 9 (by kernel_rfl) (Ds := [0 ≤ (IntKind.i64.wrap (k13 + (1 : Int))) ∧ (IntKind.i64.wrap (k13 + (1 : Int))) < ((List.length data0 : Nat) : Int)]) (by kernel_rfl) ⟨c39, trivial⟩ ?_
        refine D_loadO 0 lo0p 3 (0 + Int.toNat (IntKind.i64.wrap (k13 + (1 : Int)))) (e_api_Edge (List.getD data0 (Int.toNat (IntKind.i64.wrap (k13 + (1 : Int)))) default)) (e_api_Edge (List.getD data0 (Int.toNat (IntKind.i64.wrap (k13 + (1 : Int)))) default)) (List.map e_api_Edge data0) (by kernel_rfl) (by kernel_rfl) (by kernel_rfl) (by kernel_rfl) hO (by kernel_rfl) (ownGet c39) ?_
        obtain ⟨c40, h1⟩ := asrtE h1
        refine D_pure 13 (by kernel_rfl) (Ds := [0 ≤ k13 ∧ k13 < ((List.length data0 : Nat) : Int)]) (by kernel_rfl) ⟨c40, trivial⟩ ?_
        refine D_loadO 0 lo0p 3 (0 + Int.toNat k13) (e_api_Edge (List.getD data0 (Int.toNat k13) default)) (e_api_Edge (List.getD data0 (Int.toNat k13) default)) (List.map e_api_Edge data0) (by kernel_rfl) (by kernel_rfl) (by kernel_rfl) (by kernel_rfl) hO (by kernel_rfl) (ownGet c40) ?_
        obtain ⟨c41, h1⟩ := asrtE h1
        refine D_pure 15 (by kernel_rfl) (Ds := [0 ≤ k13 ∧ k13 < ((List.length data0 : Nat) : Int)]) (by kernel_rfl) ⟨c41, trivial⟩ ?_
        refine D_storeO 0 lo0p 3 (0 + Int.toNat k13) (e_api_Edge (List.getD data0 (Int.toNat k13) default)) (e_api_Edge (List.getD data0 (Int.toNat (IntKind.i64.wrap (k13 + (1 : Int)))) default)) (List.map e_api_Edge data0) [(lo0p, 3, List.map e_api_Edge (List.set data0 (Int.toNat k13) (List.getD data0 (Int.toNat (IntKind.i64.wrap (k13 + (1 : Int)))) default)))] (by kernel_rfl) (by kernel_rfl) (by kernel_rfl) hO (by kernel_rfl) (ownGet c41) (by simp only [List.set, ownSet]) ?_
        intro H hO
        replace hN : List.length (List.set data0 (Int.toNat k13) (List.getD data0 (Int.toNat (IntKind.i64.wrap (k13 + (1 : Int)))) default)) = N0 := by simpa using hN
        obtain ⟨c42, h1⟩ := asrtE h1
        refine D_pure 17 (by kernel_rfl) (Ds := [0 ≤ (IntKind.i64.wrap (k13 + (1 : Int))) ∧ (IntKind.i64.wrap (k13 + (1 : Int))) < ((List.length data0 : Nat) : Int)]) (by kernel_rfl) ⟨c42, trivial⟩ ?_
        refine D_storeO 0 lo0p 3 (0 + Int.toNat (IntKind.i64.wrap (k13 + (1 : Int)))) (e_api_Edge (List.getD (List.set data0 (Int.toNat k13) (List.getD data0 (Int.toNat (IntKind.i64.wrap (k13 + (1 : Int)))) default)) (Int.toNat (IntKind.i64.wrap (k13 + (1 : Int)))) default)) (e_api_Edge (List.getD data0 (Int.toNat k13) default)) (List.map e_api_Edge (List.set data0 (Int.toNat k13) (List.getD data0 (Int.toNat (IntKind.i64.wrap (k13 + (1 : Int)))) default))) [(lo0p, 3, List.map e_api_Edge (List.set (List.set data0 (Int.toNat k13) (List.getD data0 (Int.toNat (IntKind.i64.wrap (k13 + (1 : Int)))) default)) (Int.toNat (IntKind.i64.wrap (k13 + (1 : Int)))) (List.getD data0 (Int.toNat k13) default)))] (by kernel_rfl) (by kernel_rfl) (by kernel_rfl) hO (by kernel_rfl) (ownGetN c42 (by simp [])) (by simp only [List.set, ownSet]) ?_
        intro H hO
        replace hN : List.length (List.set (List.set data0 (Int.toNat k13) (List.getD data0 (Int.toNat (IntKind.i64.wrap (k13 + (1 : Int)))) default)) (Int.toNat (IntKind.i64.wrap (k13 + (1 : Int)))) (List.getD data0 (Int.toNat k13) default)) = N0 := by simpa using hN
        refine D_end (by kernel_rfl) ?_
        refine E_has (l := [(0, (.msl 3 lo0p 0 (List.length (List.set (List.set data0 (Int.toNat k13) (List.getD data0 (Int.toNat (IntKind.i64.wrap (k13 + (1 : Int)))) default)) (Int.toNat (IntKind.i64.wrap (k13 + (1 : Int)))) (List.getD data0 (Int.toNat k13) default))))), (10, (eInt .i64 i10)), (13, (eInt .i64 k13))]) ⟨[(0, (.msl 3 lo0p 0 (List.length data0))), (10, (eInt .i64 i10)), (13, (eInt .i64 k13))], by kernel_rfl, rfl, ⟨SubV.eq (by simp []), SubV.refl _, SubV.refl _, trivial⟩⟩ ?_
        refine E_done (blockA_normal (thenA_normal (?_)))
        refine C_rg ttOk 3 ?_
        refine R_al ?_
        refine E_hk [(0, (.msl 3 lo0p 0 (List.length (List.set (List.set data0 (Int.toNat k13) (List.getD data0 (Int.toNat (IntKind.i64.wrap (k13 + (1 : Int)))) default)) (Int.toNat (IntKind.i64.wrap (k13 + (1 : Int)))) (List.getD data0 (Int.toNat k13) default))))), (10, (eInt .i64 i10)), (13, (eInt .i64 (IntKind.i64.wrap (k13 + (1 : Int)))))] ?_
        exact E_done (thenA_normal (⟨rfl, (List.set (List.set data0 (Int.toNat k13) (List.getD data0 (Int.toNat (IntKind.i64.wrap (k13 + (1 : Int)))) default)) (Int.toNat (IntKind.i64.wrap (k13 + (1 : Int)))) (List.getD data0 (Int.toNat k13) default), IntKind.i64.wrap (k13 + (1 : Int))), (Option.some.inj h1).symm, .eq (by kernel_rfl), hO, hN⟩))
      replace h1 := condF hc38 h1
      refine C_ex 2 ?_
      refine E_hk [(0, (.msl 3 lo0p 0 (List.length data0)))] ?_
      obtain rfl := Option.some.inj h1
      obtain rfl : _ = rr0 := ho0
      replace h0 : slices_symMergeCmpFunc_api_Edge_j13 cmp4 rec data0 = some r := h0
      exact E_done (thenA_exit (thenA_exit (blockA_hit (thenA_normal (⟨rfl, data0, .eq (by kernel_rfl), hO, hN, h0⟩)))))
    refine C_bk 0 ?_
    refine C_hk [(0, (.msl 3 lo0p 0 (List.length data0))), (1, (eInt .i64 a1)), (4, (.fn (.func cmp4_f) cmp4_a cmp4_c)), (10, (eInt .i64 m2)), (11, (eInt .i64 b3))] ?_
    refine C_cut (fun T H => ∃ data0 : List api_Edge, ∃ i10 : Int, ∃ j11 : Int, Has T [(0, (.msl 3 lo0p 0 (List.length data0))), (1, (eInt .i64 a1)), (4, (.fn (.func cmp4_f) cmp4_a cmp4_c)), (10, (eInt .i64 i10)), (11, (eInt .i64 j11))] ∧ Owns ⟨H0, [lo0p], []⟩ H [(lo0p, 3, List.map e_api_Edge data0)] ∧ List.length data0 = N0 ∧ slices_symMergeCmpFunc_api_Edge_h15 cmp4 rec data0 a1 i10 j11 = some r) ?_ ⟨data0, m2, b3, .eq (by kernel_rfl), hO, hN, h0⟩
    clear hO hN h0
    rintro T H ⟨data0, i10, j11, hT, hO, hN, h0⟩
    refine C_has hT ?_
    clear hT
    unfold slices_symMergeCmpFunc_api_Edge_h15 at h0
    obtain ⟨rr0, hl0, h0⟩ := bindE h0
    refine C_loopS (by kernel_rfl) (fun (s : List api_Edge × Int × Int) T H => Has T [(0, (.msl 3 lo0p 0 (List.length s.1))), (1, (eInt .i64 a1)), (4, (.fn (.func cmp4_f) cmp4_a cmp4_c)), (10, (eInt .i64 s.2.1)), (11, (eInt .i64 s.2.2))] ∧ Owns ⟨H0, [lo0p], []⟩ H [(lo0p, 3, List.map e_api_Edge s.1)] ∧ List.length s.1 = N0) hl0 ⟨.eq (by kernel_rfl), hO, hN⟩ ?_
    clear hO hN
    rintro k0 s out1 T H ⟨hT, hO, hN⟩ h1 ho0
    obtain ⟨data0, i10, j11⟩ := s
    replace h1 : slices_symMergeCmpFunc_api_Edge_l15 cmp4 rec a1 data0 i10 j11 = some out1 := h1
    refine C_has (l := [(0, (.msl 3 lo0p 0 (List.length data0))), (1, (eInt .i64 a1)), (4, (.fn (.func cmp4_f) cmp4_a cmp4_c)), (10, (eInt .i64 i10)), (11, (eInt .i64 j11))]) hT ?_
    clear hT
    unfold slices_symMergeCmpFunc_api_Edge_l15 at h1
    refine C_sq ?_
    refine C_sq ?_
    refine C_rg ttOk 3 ?_
    refine R_al ?_
    refine E_tn [(0, (.msl 3 lo0p 0 (List.length data0))), (1, (eInt .i64 a1)), (4, (.fn (.func cmp4_f) cmp4_a cmp4_c)), (10, (eInt .i64 i10)), (11, (eInt .i64 j11)), (33, (eBool (decide (i10 < j11))))] ?_
    refine C_cn (decide (i10 < j11)) (fun hc43 => ?_) (fun hc43 => ?_)
    · replace h1 := condT hc43 h1
      refine C_sk ?_
      refine E_tn [(0, (.msl 3 lo0p 0 (List.length data0))), (1, (eInt .i64 a1)), (4, (.fn (.func cmp4_f) cmp4_a cmp4_c)), (10, (eInt .i64 i10)), (11, (eInt .i64 j11))] ?_
      refine C_bk 1 ?_
      refine C_sq ?_
      refine C_rg ttOk 7 ?_
      obtain ⟨c44, h1⟩ := asrtE h1
      refine R_all (Ds := [0 ≤ (1 : Int)]) (by kernel_rfl) ⟨c44, trivial⟩ ?_
      refine E_tn [(0, (.msl 3 lo0p 0 (List.length data0))), (1, (eInt .i64 a1)), (4, (.fn (.func cmp4_f) cmp4_a cmp4_c)), (10, (eInt .i64 i10)), (11, (eInt .i64 j11)), (12, (eInt .i64 (IntKind.i64.wrap (Int.fdiv (IntKind.u64.wrap (IntKind.i64.wrap (i10 + j11))) (2 ^ (min (Int.toNat (1 : Int)) 64))))))] ?_
      refine C_sq ?_
      refine A_cl (C_draw (pl := plOf []) ttOk (by kernel_rfl) (n := 11) (by kernel_rfl) (by kernel_rfl) (by kernel_rfl) ?_)
      obtain ⟨c45, h1⟩ := asrtE h1
      refine D_pure 4 (by kernel_rfl) (Ds := [0 ≤ (IntKind.i64.wrap (Int.fdiv (IntKind.u64.wrap (IntKind.i64.wrap (i10 + j11))) (2 ^ (min (Int.toNat (1 : Int)) 64)))) ∧ (IntKind.i64.wrap (Int.fdiv (IntKind.u64.wrap (IntKind.i64.wrap (i10 + j11))) (2 ^ (min (Int.toNat (1 : Int)) 64)))) < ((List.length data0 : Nat) : Int)]) (by kernel_rfl) ⟨c45, trivial⟩ ?_
      refine D_loadO 0 lo0p 3 (0 + Int.toNat (IntKind.i64.wrap (Int.fdiv (IntKind.u64.wrap (IntKind.i64.wrap (i10 + j11))) (2 ^ (min (Int.toNat (1 : Int)) 64))))) (e_api_Edge (List.getD data0 (Int.toNat (IntKind.i64.wrap (Int.fdiv (IntKind.u64.wrap (IntKind.i64.wrap (i10 + j11))) (2 ^ (min (Int.toNat (1 : Int)) 64))))) default)) (e_api_Edge (List.getD data0 (Int.toNat (IntKind.i64.wrap (Int.fdiv (IntKind.u64.wrap (IntKind.i64.wrap (i10 + j11))) (2 ^ (min (Int.toNat (1 : Int)) 64))))) default)) (List.map e_api_Edge data0) (by kernel_rfl) (by kernel_rfl) (by kernel_rfl) (by kernel_rfl) hO (by kernel_rfl) (ownGet c45) ?_
      obtain ⟨c46, h1⟩ := asrtE h1
      refine D_pure 8 (by kernel_rfl) (Ds := [0 ≤ a1 ∧ a1 < ((List.length data0 : Nat) : Int)]) (by kernel_rfl) ⟨c46, trivial⟩ ?_
      refine D_loadO 0 lo0p 3 (0 + Int.toNat a1) (e_api_Edge (List.getD data0 (Int.toNat a1) default)) (e_api_Edge (List.getD data0 (Int.toNat a1) default)) (List.map e_api_Edge data0) (by kernel_rfl) (by kernel_rfl) (by kernel_rfl) (by kernel_rfl) hO (by kernel_rfl) (ownGet c46) ?_
      obtain ⟨x47, hx48, h1⟩ := bindE h1
      refine D_callO cmp4_f (cmp4_a ++ [(e_api_Edge (List.getD data0 (Int.toNat (IntKind.i64.wrap (Int.fdiv (IntKind.u64.wrap (IntKind.i64.wrap (i10 + j11))) (2 ^ (min (Int.toNat (1 : Int)) 64))))) default)), (e_api_Edge (List.getD data0 (Int.toNat a1) default))] ++ cmp4_c) (eInt .i64 x47) (by kernel_rfl) (by kernel_rfl) (cmp4_h (List.getD data0 (Int.toNat (IntKind.i64.wrap (Int.fdiv (IntKind.u64.wrap (IntKind.i64.wrap (i10 + j11))) (2 ^ (min (Int.toNat (1 : Int)) 64))))) default) (List.getD data0 (Int.toNat a1) default) _ hx48) hO ?_
      intro H hO
      refine D_al ?_
      refine E_tn [(0, (.msl 3 lo0p 0 (List.length data0))), (1, (eInt .i64 a1)), (4, (.fn (.func cmp4_f) cmp4_a cmp4_c)), (10, (eInt .i64 i10)), (11, (eInt .i64 j11)), (12, (eInt .i64 (IntKind.i64.wrap (Int.fdiv (IntKind.u64.wrap (IntKind.i64.wrap (i10 + j11))) (2 ^ (min (Int.toNat (1 : Int)) 64)))))), (50, (eBool (decide (x47 < (0 : Int)))))] ?_
      refine C_cn (decide (x47 < (0 : Int))) (fun hc50 => ?_) (fun hc50 => ?_)
      · replace h1 := condT hc50 h1
        refine C_rg ttOk 3 ?_
        refine R_al ?_
        refine E_hk [(0, (.msl 3 lo0p 0 (List.length data0))), (1, (eInt .i64 a1)), (4, (.fn (.func cmp4_f) cmp4_a cmp4_c)), (10, (eInt .i64 (IntKind.i64.wrap ((IntKind.i64.wrap (Int.fdiv (IntKind.u64.wrap (IntKind.i64.wrap (i10 + j11))) (2 ^ (min (Int.toNat (1 : Int)) 64)))) + (1 : Int))))), (11, (eInt .i64 j11))] ?_
        exact E_done (blockA_normal (thenA_normal (⟨rfl, (data0, IntKind.i64.wrap ((IntKind.i64.wrap (Int.fdiv (IntKind.u64.wrap (IntKind.i64.wrap (i10 + j11))) (2 ^ (min (Int.toNat (1 : Int)) 64)))) + (1 : Int)), j11), (Option.some.inj h1).symm, .eq (by kernel_rfl), hO, hN⟩)))
      replace h1 := condF hc50 h1
      refine C_rg ttOk 2 ?_
      refine R_al ?_
      refine E_hk [(0, (.msl 3 lo0p 0 (List.length data0))), (1, (eInt .i64 a1)), (4, (.fn (.func cmp4_f) cmp4_a cmp4_c)), (10, (eInt .i64 i10)), (11, (eInt .i64 (IntKind.i64.wrap (Int.fdiv (IntKind.u64.wrap (IntKind.i64.wrap (i10 + j11))) (2 ^ (min (Int.toNat (1 : Int)) 64))))))] ?_
      exact E_done (blockA_normal (thenA_normal (⟨rfl, (data0, i10, IntKind.i64.wrap (Int.fdiv (IntKind.u64.wrap (IntKind.i64.wrap (i10 + j11))) (2 ^ (min (Int.toNat (1 : Int)) 64)))), (Option.some.inj h1).symm, .eq (by kernel_rfl), hO, hN⟩)))
    replace h1 := condF hc43 h1
    refine C_ex 0 ?_
    refine E_hk [(0, (.msl 3 lo0p 0 (List.length data0))), (1, (eInt .i64 a1)), (10, (eInt .i64 i10))] ?_
    obtain rfl := Option.some.inj h1
    obtain rfl : _ = rr0 := ho0
    replace h0 : slices_symMergeCmpFunc_api_Edge_j12 cmp4 rec data0 a1 i10 = some r := h0
    exact E_done (thenA_exit (thenA_exit (blockA_hit (thenA_normal (⟨rfl, data0, i10, .eq (by kernel_rfl), hO, hN, h0⟩)))))
  replace h0 := condF hc37 h0
  refine C_sk ?_
  refine E_hk [(0, (.msl 3 lo0p 0 (List.length data0))), (1, (eInt .i64 a1)), (2, (eInt .i64 m2)), (3, (eInt .i64 b3)), (4, (.fn (.func cmp4_f) cmp4_a cmp4_c))] ?_
  exact E_done (thenA_normal (⟨rfl, data0, .eq (by kernel_rfl), hO, hN, h0⟩))

theorem w_slices_symMergeCmpFunc_api_Edge_at (cmp4_f : Nat) (cmp4_a cmp4_c : List V) (cmp4 : api_Edge → api_Edge → Option Int) (cmp4_h : ∀ a0 a1 r, cmp4 a0 a1 = some r → Fine Try.prog cmp4_f (cmp4_a ++ [(e_api_Edge a0), (e_api_Edge a1)] ++ cmp4_c) (eInt .i64 r)) : ∀ (k : Nat) (lo0p : Nat) (data0 : (List api_Edge)) (a1 : Int) (m2 : Int) (b3 : Int) (r : List api_Edge), slices_symMergeCmpFunc_api_Edge_at cmp4 k data0 a1 m2 b3 = some r → FineI Try.prog 113 lo0p 3 (List.map e_api_Edge data0) (List.map e_api_Edge r) [(.msl 3 lo0p 0 (List.length data0)), (eInt .i64 a1), (eInt .i64 m2), (eInt .i64 b3), (.fn (.func cmp4_f) cmp4_a cmp4_c)] (.tup [])
  | 0, _, _, _, _, _, _, h => by cases h
  | k + 1, lo0p, data0, a1, m2, b3, r, h => w_slices_symMergeCmpFunc_api_Edge_step cmp4_f cmp4_a cmp4_c cmp4 cmp4_h _ (w_slices_symMergeCmpFunc_api_Edge_at cmp4_f cmp4_a cmp4_c cmp4 cmp4_h k) lo0p data0 a1 m2 b3 r h

theorem w_slices_symMergeCmpFunc_api_Edge (lo0p : Nat) (data0 : (List api_Edge)) (a1 : Int) (m2 : Int) (b3 : Int) (cmp4_f : Nat) (cmp4_a cmp4_c : List V) (cmp4 : api_Edge → api_Edge → Option Int) (cmp4_h : ∀ a0 a1 r, cmp4 a0 a1 = some r → Fine Try.prog cmp4_f (cmp4_a ++ [(e_api_Edge a0), (e_api_Edge a1)] ++ cmp4_c) (eInt .i64 r)) (r : List api_Edge) (h0 : s_slices_symMergeCmpFunc_api_Edge data0 a1 m2 b3 cmp4 = some r) : FineI Try.prog 113 lo0p 3 (List.map e_api_Edge data0) (List.map e_api_Edge r) [(.msl 3 lo0p 0 (List.length data0)), (eInt .i64 a1), (eInt .i64 m2), (eInt .i64 b3), (.fn (.func cmp4_f) cmp4_a cmp4_c)] (.tup []) := by
  obtain ⟨k, hk⟩ := fixN_some h0
  exact w_slices_symMergeCmpFunc_api_Edge_at cmp4_f cmp4_a cmp4_c cmp4 cmp4_h k lo0p data0 a1 m2 b3 r hk

theorem w_slices_stableCmpFunc_api_Edge (lo0p : Nat) (data0 : (List api_Edge)) (n1 : Int) (cmp2_f : Nat) (cmp2_a cmp2_c : List V) (cmp2 : api_Edge → api_Edge → Option Int) (cmp2_h : ∀ a0 a1 r, cmp2 a0 a1 = some r → Fine Try.prog cmp2_f (cmp2_a ++ [(e_api_Edge a0), (e_api_Edge a1)] ++ cmp2_c) (eInt .i64 r)) (r : List api_Edge) (h0 : s_slices_stableCmpFunc_api_Edge data0 n1 cmp2 = some r) : FineI Try.prog 90 lo0p 3 (List.map e_api_Edge data0) (List.map e_api_Edge r) [(.msl 3 lo0p 0 (List.length data0)), (eInt .i64 n1), (.fn (.func cmp2_f) cmp2_a cmp2_c)] (.tup []) := by
  intro H0 hl0
  refine F_walk Try.func90 (by kernel_rfl) (by kernel_rfl) (by kernel_rfl) ?_
  have hO := Owns.start1 hl0
  clear hl0
  obtain ⟨N0, hN0⟩ : ∃ n, n = List.length data0 := ⟨_, rfl⟩
  have hN : List.length data0 = N0 := hN0.symm
  unfold s_slices_stableCmpFunc_api_Edge at h0
  refine C_sq ?_
  refine C_rg ttOk 1 ?_
  refine R_al ?_
  refine E_tn [(0, (.msl 3 lo0p 0 (List.length data0))), (1, (eInt .i64 n1)), (2, (.fn (.func cmp2_f) cmp2_a cmp2_c)), (6, (eInt .i64 (20 : Int)))] ?_
  refine C_sq ?_
  refine C_rg ttOk 3 ?_
  refine R_al ?_
  refine E_tn [(0, (.msl 3 lo0p 0 (List.length data0))), (1, (eInt .i64 n1)), (2, (.fn (.func cmp2_f) cmp2_a cmp2_c)), (6, (eInt .i64 (20 : Int))), (7, (eInt .i64 (0 : Int))), (8, (eInt .i64 (20 : Int)))] ?_
  refine C_seqJ (by kernel_rfl) (fun T H => ∃ data0 : List api_Edge, ∃ blockSize6 : Int, ∃ a7 : Int, Has T [(0, (.msl 3 lo0p 0 (List.length data0))), (1, (eInt .i64 n1)), (2, (.fn (.func cmp2_f) cmp2_a cmp2_c)), (6, (eInt .i64 blockSize6)), (7, (eInt .i64 a7))] ∧ Owns ⟨H0, [lo0p], []⟩ H [(lo0p, 3, List.map e_api_Edge data0)] ∧ List.length data0 = N0 ∧ slices_stableCmpFunc_api_Edge_j1 cmp2 data0 n1 blockSize6 a7 = some r) ?_ ?_
  · clear hO hN h0
    rintro T H ⟨data0, blockSize6, a7, hT, hO, hN, h0⟩
    refine C_has hT ?_
    clear hT
    unfold slices_stableCmpFunc_api_Edge_j1 at h0
    refine C_sq ?_
    refine C_rg ttOk 5 ?_
    refine R_pu 4 ?_
    obtain ⟨x1, hx2, h0⟩ := bindE h0
    refine R_callI (L' := [(lo0p, 3, List.map e_api_Edge x1)]) 0 lo0p 3 (List.map e_api_Edge data0) (List.map e_api_Edge x1) 112 [(.msl 3 lo0p 0 (List.length data0)), (eInt .i64 a7), (eInt .i64 n1), (.fn (.func cmp2_f) cmp2_a cmp2_c)] (.tup []) (by kernel_rfl) (by kernel_rfl) (w_slices_insertionSortCmpFunc_api_Edge lo0p data0 a7 n1 cmp2_f cmp2_a cmp2_c cmp2 cmp2_h _ hx2) hO (by kernel_rfl) (by kernel_rfl) ?_
    intro H hO hl3
    simp only [List.length_map] at hl3
    replace hN := hl3.trans hN
    refine R_en ?_
    refine E_has (l := [(0, (.msl 3 lo0p 0 (List.length x1))), (1, (eInt .i64 n1)), (2, (.fn (.func cmp2_f) cmp2_a cmp2_c)), (6, (eInt .i64 blockSize6))]) ⟨[(0, (.msl 3 lo0p 0 (List.length data0))), (1, (eInt .i64 n1)), (2, (.fn (.func cmp2_f) cmp2_a cmp2_c)), (6, (eInt .i64 blockSize6))], by kernel_rfl, rfl, ⟨SubV.eq (by simp [hl3]), SubV.refl _, SubV.refl _, SubV.refl _, trivial⟩⟩ ?_
    refine E_done (thenA_normal (?_))
    refine C_bk 2 ?_
    refine C_hk [(0, (.msl 3 lo0p 0 (List.length x1))), (1, (eInt .i64 n1)), (2, (.fn (.func cmp2_f) cmp2_a cmp2_c)), (6, (eInt .i64 blockSize6))] ?_
    refine C_cut (fun T H => ∃ data0 : List api_Edge, ∃ blockSize6 : Int, Has T [(0, (.msl 3 lo0p 0 (List.length data0))), (1, (eInt .i64 n1)), (2, (.fn (.func cmp2_f) cmp2_a cmp2_c)), (6, (eInt .i64 blockSize6))] ∧ Owns ⟨H0, [lo0p], []⟩ H [(lo0p, 3, List.map e_api_Edge data0)] ∧ List.length data0 = N0 ∧ slices_stableCmpFunc_api_Edge_h2 cmp2 data0 n1 blockSize6 = some r) ?_ ⟨x1, blockSize6, .eq (by kernel_rfl), hO, hN, h0⟩
    clear hO hN h0
    rintro T H ⟨data0, blockSize6, hT, hO, hN, h0⟩
    refine C_has hT ?_
    clear hT
    unfold slices_stableCmpFunc_api_Edge_h2 at h0
    obtain ⟨rr0, hl0, h0⟩ := bindE h0
    refine C_loopS (by kernel_rfl) (fun (s : List api_Edge × Int) T H => Has T [(0, (.msl 3 lo0p 0 (List.length s.1))), (1, (eInt .i64 n1)), (2, (.fn (.func cmp2_f) cmp2_a cmp2_c)), (6, (eInt .i64 s.2))] ∧ Owns ⟨H0, [lo0p], []⟩ H [(lo0p, 3, List.map e_api_Edge s.1)] ∧ List.length s.1 = N0) hl0 ⟨.eq (by kernel_rfl), hO, hN⟩ ?_
    clear hO hN
    rintro k0 s out1 T H ⟨hT, hO, hN⟩ h1 ho0
    obtain ⟨data0, blockSize6⟩ := s
    replace h1 : slices_stableCmpFunc_api_Edge_l2 cmp2 n1 data0 blockSize6 = some out1 := h1
    refine C_has (l := [(0, (.msl 3 lo0p 0 (List.length data0))), (1, (eInt .i64 n1)), (2, (.fn (.func cmp2_f) cmp2_a cmp2_c)), (6, (eInt .i64 blockSize6))]) hT ?_
    clear hT
    unfold slices_stableCmpFunc_api_Edge_l2 at h1
    refine C_sq ?_
    refine C_sq ?_
    refine C_rg ttOk 3 ?_
    refine R_al ?_
    refine E_tn [(0, (.msl 3 lo0p 0 (List.length data0))), (1, (eInt .i64 n1)), (2, (.fn (.func cmp2_f) cmp2_a cmp2_c)), (6, (eInt .i64 blockSize6)), (30, (eBool (decide (blockSize6 < n1))))] ?_
    refine C_cn (decide (blockSize6 < n1)) (fun hc4 => ?_) (fun hc4 => ?_)
    · replace h1 := condT hc4 h1
      refine C_sk ?_
      refine E_tn [(0, (.msl 3 lo0p 0 (List.length data0))), (1, (eInt .i64 n1)), (2, (.fn (.func cmp2_f) cmp2_a cmp2_c)), (6, (eInt .i64 blockSize6))] ?_
      refine C_bk 3 ?_
      refine C_sq ?_
      refine C_rg ttOk 4 ?_
      refine R_al ?_
      refine E_tn [(0, (.msl 3 lo0p 0 (List.length data0))), (1, (eInt .i64 n1)), (2, (.fn (.func cmp2_f) cmp2_a cmp2_c)), (6, (eInt .i64 blockSize6)), (7, (eInt .i64 (0 : Int))), (8, (eInt .i64 (IntKind.i64.wrap ((2 : Int) * blockSize6))))] ?_
      refine C_seqJ (by kernel_rfl) (fun T H => ∃ data0 : List api_Edge, ∃ a7 : Int, Has T [(0, (.msl 3 lo0p 0 (List.length data0))), (1, (eInt .i64 n1)), (2, (.fn (.func cmp2_f) cmp2_a cmp2_c)), (6, (eInt .i64 blockSize6)), (7, (eInt .i64 a7))] ∧ Owns ⟨H0, [lo0p], []⟩ H [(lo0p, 3, List.map e_api_Edge data0)] ∧ List.length data0 = N0 ∧ slices_stableCmpFunc_api_Edge_j3 cmp2 data0 n1 blockSize6 a7 = some out1) ?_ ?_
      · clear hO hN h1
        rintro T H ⟨data0, a7, hT, hO, hN, h1⟩
        refine C_has hT ?_
        clear hT
        unfold slices_stableCmpFunc_api_Edge_j3 at h1
        refine C_seqJ (by kernel_rfl) (fun T H => ∃ data0 : List api_Edge, Has T [(0, (.msl 3 lo0p 0 (List.length data0))), (1, (eInt .i64 n1)), (2, (.fn (.func cmp2_f) cmp2_a cmp2_c)), (6, (eInt .i64 blockSize6))] ∧ Owns ⟨H0, [lo0p], []⟩ H [(lo0p, 3, List.map e_api_Edge data0)] ∧ List.length data0 = N0 ∧ slices_stableCmpFunc_api_Edge_j4 cmp2 data0 n1 blockSize6 = some out1) ?_ ?_
        · clear hO hN h1
          rintro T H ⟨data0, hT, hO, hN, h1⟩
          refine C_has hT ?_
          clear hT
          unfold slices_stableCmpFunc_api_Edge_j4 at h1
          refine C_rg ttOk 3 ?_
          refine R_al ?_
          refine E_hk [(0, (.msl 3 lo0p 0 (List.length data0))), (1, (eInt .i64 n1)), (2, (.fn (.func cmp2_f) cmp2_a cmp2_c)), (6, (eInt .i64 (IntKind.i64.wrap (blockSize6 * (2 : Int)))))] ?_
          exact E_done (blockA_normal (thenA_normal (⟨rfl, (data0, IntKind.i64.wrap (blockSize6 * (2 : Int))), (Option.some.inj h1).symm, .eq (by kernel_rfl), hO, hN⟩)))
        refine C_sq ?_
        refine C_rg ttOk 4 ?_
        refine R_al ?_
        refine E_tn [(0, (.msl 3 lo0p 0 (List.length data0))), (1, (eInt .i64 n1)), (2, (.fn (.func cmp2_f) cmp2_a cmp2_c)), (6, (eInt .i64 blockSize6)), (7, (eInt .i64 a7)), (9, (eInt .i64 (IntKind.i64.wrap (a7 + blockSize6))))] ?_
        refine C_sq ?_
        refine C_rg ttOk 3 ?_
        refine R_al ?_
        refine E_tn [(0, (.msl 3 lo0p 0 (List.length data0))), (1, (eInt .i64 n1)), (2, (.fn (.func cmp2_f) cmp2_a cmp2_c)), (6, (eInt .i64 blockSize6)), (7, (eInt .i64 a7)), (9, (eInt .i64 (IntKind.i64.wrap (a7 + blockSize6)))), (54, (eBool (decide ((IntKind.i64.wrap (a7 + blockSize6)) < n1))))] ?_
        refine C_cn (decide ((IntKind.i64.wrap (a7 + blockSize6)) < n1)) (fun hc5 => ?_) (fun hc5 => ?_)
        · replace h1 := condT hc5 h1
          refine C_rg ttOk 6 ?_
          refine R_pu 5 ?_
          obtain ⟨x6, hx7, h1⟩ := bindE h1
          refine R_callI (L' := [(lo0p, 3, List.map e_api_Edge x6)]) 0 lo0p 3 (List.map e_api_Edge data0) (List.map e_api_Edge x6) 113 [(.msl 3 lo0p 0 (List.length data0)), (eInt .i64 a7), (eInt .i64 (IntKind.i64.wrap (a7 + blockSize6))), (eInt .i64 n1), (.fn (.func cmp2_f) cmp2_a cmp2_c)] (.tup []) (by kernel_rfl) (by kernel_rfl) (w_slices_symMergeCmpFunc_api_Edge lo0p data0 a7 (IntKind.i64.wrap (a7 + blockSize6)) n1 cmp2_f cmp2_a cmp2_c cmp2 cmp2_h _ hx7) hO (by kernel_rfl) (by kernel_rfl) ?_
          intro H hO hl8
          simp only [List.length_map] at hl8
          replace hN := hl8.trans hN
          refine R_en ?_
          refine E_has (l := [(0, (.msl 3 lo0p 0 (List.length x6))), (1, (eInt .i64 n1)), (2, (.fn (.func cmp2_f) cmp2_a cmp2_c)), (6, (eInt .i64 blockSize6))]) ⟨[(0, (.msl 3 lo0p 0 (List.length data0))), (1, (eInt .i64 n1)), (2, (.fn (.func cmp2_f) cmp2_a cmp2_c)), (6, (eInt .i64 blockSize6))], by kernel_rfl, rfl, ⟨SubV.eq (by simp [hl8]), SubV.refl _, SubV.refl _, SubV.refl _, trivial⟩⟩ ?_
          exact E_done (thenA_normal (⟨rfl, x6, .eq (by kernel_rfl), hO, hN, h1⟩))
        replace h1 := condF hc5 h1
        refine C_sk ?_
        refine E_hk [(0, (.msl 3 lo0p 0 (List.length data0))), (1, (eInt .i64 n1)), (2, (.fn (.func cmp2_f) cmp2_a cmp2_c)), (6, (eInt .i64 blockSize6))] ?_
        exact E_done (thenA_normal (⟨rfl, data0, .eq (by kernel_rfl), hO, hN, h1⟩))
      refine C_bk 4 ?_
      refine C_hk [(0, (.msl 3 lo0p 0 (List.length data0))), (1, (eInt .i64 n1)), (2, (.fn (.func cmp2_f) cmp2_a cmp2_c)), (6, (eInt .i64 blockSize6)), (7, (eInt .i64 (0 : Int))), (8, (eInt .i64 (IntKind.i64.wrap ((2 : Int) * blockSize6))))] ?_
      refine C_cut (fun T H => ∃ data0 : List api_Edge, ∃ a7 : Int, ∃ b8 : Int, Has T [(0, (.msl 3 lo0p 0 (List.length data0))), (1, (eInt .i64 n1)), (2, (.fn (.func cmp2_f) cmp2_a cmp2_c)), (6, (eInt .i64 blockSize6)), (7, (eInt .i64 a7)), (8, (eInt .i64 b8))] ∧ Owns ⟨H0, [lo0p], []⟩ H [(lo0p, 3, List.map e_api_Edge data0)] ∧ List.length data0 = N0 ∧ slices_stableCmpFunc_api_Edge_h5 cmp2 data0 n1 blockSize6 a7 b8 = some out1) ?_ ⟨data0, (0 : Int), IntKind.i64.wrap ((2 : Int) * blockSize6), .eq (by kernel_rfl), hO, hN, h1⟩
      clear hO hN h1
      rintro T H ⟨data0, a7, b8, hT, hO, hN, h1⟩
      refine C_has hT ?_
      clear hT
      unfold slices_stableCmpFunc_api_Edge_h5 at h1
      obtain ⟨rr1, hl1, h1⟩ := bindE h1
      refine C_loopS (by kernel_rfl) (fun (s : List api_Edge × Int × Int) T H => Has T [(0, (.msl 3 lo0p 0 (List.length s.1))), (1, (eInt .i64 n1)), (2, (.fn (.func cmp2_f) cmp2_a cmp2_c)), (6, (eInt .i64 blockSize6)), (7, (eInt .i64 s.2.1)), (8, (eInt .i64 s.2.2))] ∧ Owns ⟨H0, [lo0p], []⟩ H [(lo0p, 3, List.map e_api_Edge s.1)] ∧ List.length s.1 = N0) hl1 ⟨.eq (by kernel_rfl), hO, hN⟩ ?_
      clear hO hN
      rintro k1 s out2 T H ⟨hT, hO, hN⟩ h2 ho1
      obtain ⟨data0, a7, b8⟩ := s
      replace h2 : slices_stableCmpFunc_api_Edge_l5 cmp2 n1 blockSize6 data0 a7 b8 = some out2 := h2
      refine C_has (l := [(0, (.msl 3 lo0p 0 (List.length data0))), (1, (eInt .i64 n1)), (2, (.fn (.func cmp2_f) cmp2_a cmp2_c)), (6, (eInt .i64 blockSize6)), (7, (eInt .i64 a7)), (8, (eInt .i64 b8))]) hT ?_
      clear hT
      unfold slices_stableCmpFunc_api_Edge_l5 at h2
      refine C_sq ?_
      refine C_sq ?_
      refine C_rg ttOk 3 ?_
      refine R_al ?_
      refine E_tn [(0, (.msl 3 lo0p 0 (List.length data0))), (1, (eInt .i64 n1)), (2, (.fn (.func cmp2_f) cmp2_a cmp2_c)), (6, (eInt .i64 blockSize6)), (7, (eInt .i64 a7)), (8, (eInt .i64 b8)), (35, (eBool (decide (b8 ≤ n1))))] ?_
      refine C_cn (decide (b8 ≤ n1)) (fun hc9 => ?_) (fun hc9 => ?_)
      · replace h2 := condT hc9 h2
        refine C_sk ?_
        refine E_tn [(0, (.msl 3 lo0p 0 (List.length data0))), (1, (eInt .i64 n1)), (2, (.fn (.func cmp2_f) cmp2_a cmp2_c)), (6, (eInt .i64 blockSize6)), (7, (eInt .i64 a7)), (8, (eInt .i64 b8))] ?_
        refine C_bk 5 ?_
        refine C_sq ?_
        refine C_rg ttOk 8 ?_
        refine R_pu 7 ?_
        obtain ⟨x10, hx11, h2⟩ := bindE h2
        refine R_callI (L' := [(lo0p, 3, List.map e_api_Edge x10)]) 0 lo0p 3 (List.map e_api_Edge data0) (List.map e_api_Edge x10) 113 [(.msl 3 lo0p 0 (List.length data0)), (eInt .i64 a7), (eInt .i64 (IntKind.i64.wrap (a7 + blockSize6))), (eInt .i64 b8), (.fn (.func cmp2_f) cmp2_a cmp2_c)] (.tup []) (by kernel_rfl) (by kernel_rfl) (w_slices_symMergeCmpFunc_api_Edge lo0p data0 a7 (IntKind.i64.wrap (a7 + blockSize6)) b8 cmp2_f cmp2_a cmp2_c cmp2 cmp2_h _ hx11) hO (by kernel_rfl) (by kernel_rfl) ?_
        intro H hO hl12
        simp only [List.length_map] at hl12
        replace hN := hl12.trans hN
        refine R_en ?_
        refine E_has (l := [(0, (.msl 3 lo0p 0 (List.length x10))), (1, (eInt .i64 n1)), (2, (.fn (.func cmp2_f) cmp2_a cmp2_c)), (6, (eInt .i64 blockSize6)), (8, (eInt .i64 b8))]) ⟨[(0, (.msl 3 lo0p 0 (List.length data0))), (1, (eInt .i64 n1)), (2, (.fn (.func cmp2_f) cmp2_a cmp2_c)), (6, (eInt .i64 blockSize6)), (8, (eInt .i64 b8))], by kernel_rfl, rfl, ⟨SubV.eq (by simp [hl12]), SubV.refl _, SubV.refl _, SubV.refl _, SubV.refl _, trivial⟩⟩ ?_
        refine E_done (thenA_normal (?_))
        refine C_sq ?_
        refine C_rg ttOk 2 ?_
        refine R_al ?_
        refine E_tn [(0, (.msl 3 lo0p 0 (List.length x10))), (1, (eInt .i64 n1)), (2, (.fn (.func cmp2_f) cmp2_a cmp2_c)), (6, (eInt .i64 blockSize6)), (7, (eInt .i64 b8)), (8, (eInt .i64 b8))] ?_
        refine C_rg ttOk 5 ?_
        refine R_al ?_
        refine E_hk [(0, (.msl 3 lo0p 0 (List.length x10))), (1, (eInt .i64 n1)), (2, (.fn (.func cmp2_f) cmp2_a cmp2_c)), (6, (eInt .i64 blockSize6)), (7, (eInt .i64 b8)), (8, (eInt .i64 (IntKind.i64.wrap (b8 + (IntKind.i64.wrap ((2 : Int) * blockSize6))))))] ?_
        exact E_done (blockA_normal (thenA_normal (⟨rfl, (x10, b8, IntKind.i64.wrap (b8 + (IntKind.i64.wrap ((2 : Int) * blockSize6)))), (Option.some.inj h2).symm, .eq (by kernel_rfl), hO, hN⟩)))
      replace h2 := condF hc9 h2
      refine C_ex 4 ?_
      refine E_hk [(0, (.msl 3 lo0p 0 (List.length data0))), (1, (eInt .i64 n1)), (2, (.fn (.func cmp2_f) cmp2_a cmp2_c)), (6, (eInt .i64 blockSize6)), (7, (eInt .i64 a7))] ?_
      obtain rfl := Option.some.inj h2
      obtain rfl : _ = rr1 := ho1
      replace h1 : slices_stableCmpFunc_api_Edge_j3 cmp2 data0 n1 blockSize6 a7 = some out1 := h1
      exact E_done (thenA_exit (thenA_exit (blockA_hit (thenA_normal (⟨rfl, data0, a7, .eq (by kernel_rfl), hO, hN, h1⟩)))))
    replace h1 := condF hc4 h1
    refine C_ex 2 ?_
    refine E_hk [(0, (.msl 3 lo0p 0 (List.length data0)))] ?_
    obtain rfl := Option.some.inj h1
    obtain rfl : _ = rr0 := ho0
    replace h0 : some data0 = some r := h0
    obtain rfl := Option.some.inj h0
    exact E_done (thenA_exit (thenA_exit (blockA_hit (Q_end (x := (.tup [])) (by kernel_rfl) (SubV.refl _) ⟨rfl, hO.ext, hO.at 0 (by kernel_rfl), by simp only [List.length_map]; exact hN.trans hN0⟩))))
  refine C_bk 0 ?_
  refine C_hk [(0, (.msl 3 lo0p 0 (List.length data0))), (1, (eInt .i64 n1)), (2, (.fn (.func cmp2_f) cmp2_a cmp2_c)), (6, (eInt .i64 (20 : Int))), (7, (eInt .i64 (0 : Int))), (8, (eInt .i64 (20 : Int)))] ?_
  refine C_cut (fun T H => ∃ data0 : List api_Edge, ∃ blockSize6 : Int, ∃ a7 : Int, ∃ b8 : Int, Has T [(0, (.msl 3 lo0p 0 (List.length data0))), (1, (eInt .i64 n1)), (2, (.fn (.func cmp2_f) cmp2_a cmp2_c)), (6, (eInt .i64 blockSize6)), (7, (eInt .i64 a7)), (8, (eInt .i64 b8))] ∧ Owns ⟨H0, [lo0p], []⟩ H [(lo0p, 3, List.map e_api_Edge data0)] ∧ List.length data0 = N0 ∧ slices_stableCmpFunc_api_Edge_h6 cmp2 data0 n1 blockSize6 a7 b8 = some r) ?_ ⟨data0, (20 : Int), (0 : Int), (20 : Int), .eq (by kernel_rfl), hO, hN, h0⟩
  clear hO hN h0
  rintro T H ⟨data0, blockSize6, a7, b8, hT, hO, hN, h0⟩
  refine C_has hT ?_
  clear hT
  unfold slices_stableCmpFunc_api_Edge_h6 at h0
  obtain ⟨rr0, hl0, h0⟩ := bindE h0
  refine C_loopS (by kernel_rfl) (fun (s : List api_Edge × Int × Int) T H => Has T [(0, (.msl 3 lo0p 0 (List.length s.1))), (1, (eInt .i64 n1)), (2, (.fn (.func cmp2_f) cmp2_a cmp2_c)), (6, (eInt .i64 blockSize6)), (7, (eInt .i64 s.2.1)), (8, (eInt .i64 s.2.2))] ∧ Owns ⟨H0, [lo0p], []⟩ H [(lo0p, 3, List.map e_api_Edge s.1)] ∧ List.length s.1 = N0) hl0 ⟨.eq (by kernel_rfl), hO, hN⟩ ?_
  clear hO hN
  rintro k0 s out1 T H ⟨hT, hO, hN⟩ h1 ho0
  obtain ⟨data0, a7, b8⟩ := s
  replace h1 : slices_stableCmpFunc_api_Edge_l6 cmp2 n1 blockSize6 data0 a7 b8 = some out1 := h1
  refine C_has (l := [(0, (.msl 3 lo0p 0 (List.length data0))), (1, (eInt .i64 n1)), (2, (.fn (.func cmp2_f) cmp2_a cmp2_c)), (6, (eInt .i64 blockSize6)), (7, (eInt .i64 a7)), (8, (eInt .i64 b8))]) hT ?_
  clear hT
  unfold slices_stableCmpFunc_api_Edge_l6 at h1
  refine C_sq ?_
  refine C_sq ?_
  refine C_rg ttOk 3 ?_
  refine R_al ?_
  refine E_tn [(0, (.msl 3 lo0p 0 (List.length data0))), (1, (eInt .i64 n1)), (2, (.fn (.func cmp2_f) cmp2_a cmp2_c)), (6, (eInt .i64 blockSize6)), (7, (eInt .i64 a7)), (8, (eInt .i64 b8)), (13, (eBool (decide (b8 ≤ n1))))] ?_
  refine C_cn (decide (b8 ≤ n1)) (fun hc13 => ?_) (fun hc13 => ?_)
  · replace h1 := condT hc13 h1
    refine C_sk ?_
    refine E_tn [(0, (.msl 3 lo0p 0 (List.length data0))), (1, (eInt .i64 n1)), (2, (.fn (.func cmp2_f) cmp2_a cmp2_c)), (6, (eInt .i64 blockSize6)), (7, (eInt .i64 a7)), (8, (eInt .i64 b8))] ?_
    refine C_bk 1 ?_
    refine C_sq ?_
    refine C_rg ttOk 5 ?_
    refine R_pu 4 ?_
    obtain ⟨x14, hx15, h1⟩ := bindE h1
    refine R_callI (L' := [(lo0p, 3, List.map e_api_Edge x14)]) 0 lo0p 3 (List.map e_api_Edge data0) (List.map e_api_Edge x14) 112 [(.msl 3 lo0p 0 (List.length data0)), (eInt .i64 a7), (eInt .i64 b8), (.fn (.func cmp2_f) cmp2_a cmp2_c)] (.tup []) (by kernel_rfl) (by kernel_rfl) (w_slices_insertionSortCmpFunc_api_Edge lo0p data0 a7 b8 cmp2_f cmp2_a cmp2_c cmp2 cmp2_h _ hx15) hO (by kernel_rfl) (by kernel_rfl) ?_
    intro H hO hl16
    simp only [List.length_map] at hl16
    replace hN := hl16.trans hN
    refine R_en ?_
    refine E_has (l := [(0, (.msl 3 lo0p 0 (List.length x14))), (1, (eInt .i64 n1)), (2, (.fn (.func cmp2_f) cmp2_a cmp2_c)), (6, (eInt .i64 blockSize6)), (8, (eInt .i64 b8))]) ⟨[(0, (.msl 3 lo0p 0 (List.length data0))), (1, (eInt .i64 n1)), (2, (.fn (.func cmp2_f) cmp2_a cmp2_c)), (6, (eInt .i64 blockSize6)), (8, (eInt .i64 b8))], by kernel_rfl, rfl, ⟨SubV.eq (by simp [hl16]), SubV.refl _, SubV.refl _, SubV.refl _, SubV.refl _, trivial⟩⟩ ?_
    refine E_done (thenA_normal (?_))
    refine C_sq ?_
    refine C_rg ttOk 2 ?_
    refine R_al ?_
    refine E_tn [(0, (.msl 3 lo0p 0 (List.length x14))), (1, (eInt .i64 n1)), (2, (.fn (.func cmp2_f) cmp2_a cmp2_c)), (6, (eInt .i64 blockSize6)), (7, (eInt .i64 b8)), (8, (eInt .i64 b8))] ?_
    refine C_rg ttOk 4 ?_
    refine R_al ?_
    refine E_hk [(0, (.msl 3 lo0p 0 (List.length x14))), (1, (eInt .i64 n1)), (2, (.fn (.func cmp2_f) cmp2_a cmp2_c)), (6, (eInt .i64 blockSize6)), (7, (eInt .i64 b8)), (8, (eInt .i64 (IntKind.i64.wrap (b8 + blockSize6))))] ?_
    exact E_done (blockA_normal (thenA_normal (⟨rfl, (x14, b8, IntKind.i64.wrap (b8 + blockSize6)), (Option.some.inj h1).symm, .eq (by kernel_rfl), hO, hN⟩)))
  replace h1 := condF hc13 h1
  refine C_ex 0 ?_
  refine E_hk [(0, (.msl 3 lo0p 0 (List.length data0))), (1, (eInt .i64 n1)), (2, (.fn (.func cmp2_f) cmp2_a cmp2_c)), (6, (eInt .i64 blockSize6)), (7, (eInt .i64 a7))] ?_
  obtain rfl := Option.some.inj h1
  obtain rfl : _ = rr0 := ho0
  replace h0 : slices_stableCmpFunc_api_Edge_j1 cmp2 data0 n1 blockSize6 a7 = some r := h0
  exact E_done (thenA_exit (thenA_exit (blockA_hit (thenA_normal (⟨rfl, data0, blockSize6, a7, .eq (by kernel_rfl), hO, hN, h0⟩)))))

theorem w_slices_SortStableFunc_api_Edge_api_Edge (lo0p : Nat) (x0 : (List api_Edge)) (cmp1_f : Nat) (cmp1_a cmp1_c : List V) (cmp1 : api_Edge → api_Edge → Option Int) (cmp1_h : ∀ a0 a1 r, cmp1 a0 a1 = some r → Fine Try.prog cmp1_f (cmp1_a ++ [(e_api_Edge a0), (e_api_Edge a1)] ++ cmp1_c) (eInt .i64 r)) (r : List api_Edge) (h0 : s_slices_SortStableFunc_api_Edge_api_Edge x0 cmp1 = some r) : FineI Try.prog 58 lo0p 3 (List.map e_api_Edge x0) (List.map e_api_Edge r) [(.msl 3 lo0p 0 (List.length x0)), (.fn (.func cmp1_f) cmp1_a cmp1_c)] (.tup []) := by
  intro H0 hl0
  refine F_walk Try.func58 (by kernel_rfl) (by kernel_rfl) (by kernel_rfl) ?_
  have hO := Owns.start1 hl0
  clear hl0
  obtain ⟨N0, hN0⟩ : ∃ n, n = List.length x0 := ⟨_, rfl⟩
  have hN : List.length x0 = N0 := hN0.symm
  unfold s_slices_SortStableFunc_api_Edge_api_Edge at h0
  refine C_rg ttOk 5 ?_
  refine R_pu 4 ?_
  obtain ⟨x1, hx2, h0⟩ := bindE h0
  refine R_callI (L' := [(lo0p, 3, List.map e_api_Edge x1)]) 0 lo0p 3 (List.map e_api_Edge x0) (List.map e_api_Edge x1) 90 [(.msl 3 lo0p 0 (List.length x0)), (eInt .i64 ((List.length x0 : Nat) : Int)), (.fn (.func cmp1_f) cmp1_a cmp1_c)] (.tup []) (by kernel_rfl) (by kernel_rfl) (w_slices_stableCmpFunc_api_Edge lo0p x0 ((List.length x0 : Nat) : Int) cmp1_f cmp1_a cmp1_c cmp1 cmp1_h _ hx2) hO (by kernel_rfl) (by kernel_rfl) ?_
  intro H hO hl3
  simp only [List.length_map] at hl3
  replace hN := hl3.trans hN
  refine R_en ?_
  refine E_has (l := [(0, (.msl 3 lo0p 0 (List.length x1)))]) ⟨[(0, (.msl 3 lo0p 0 (List.length x0)))], by kernel_rfl, rfl, ⟨SubV.eq (by simp [hl3]), trivial⟩⟩ ?_
  obtain rfl := Option.some.inj h0
  exact E_done (Q_end (x := (.tup [])) (by kernel_rfl) (SubV.refl _) ⟨rfl, hO.ext, hO.at 0 (by kernel_rfl), by simp only [List.length_map]; exact hN.trans hN0⟩)

theorem w_cmp_Or_int (vals0 : (List Int)) (r : Int) (h0 : s_cmp_Or_int vals0 = some r) : Fine Try.prog 60 [(eL (eInt .i64) vals0)] (eInt .i64 r) := by
  intro H0
  refine F_walk Try.func60 (by kernel_rfl) (by kernel_rfl) (by kernel_rfl) ?_
  have hO := Owns.start H0
  unfold s_cmp_Or_int at h0
  refine C_sq ?_
  refine C_rg ttOk 1 ?_
  refine R_al ?_
  refine E_tn [(0, (eL (eInt .i64) vals0))] ?_
  refine C_sq ?_
  refine C_rg ttOk 1 ?_
  refine R_al ?_
  refine E_tn [(0, (eL (eInt .i64) vals0)), (3, (eInt .i64 (0 : Int)))] ?_
  refine C_seqJ (by kernel_rfl) (fun T H => ∃ zero3 : Int, Has T [(3, (eInt .i64 zero3))] ∧ Owns ⟨H0, [], []⟩ H [] ∧ cmp_Or_int_j1 zero3 = some r) ?_ ?_
  · clear hO h0
    rintro T H ⟨zero3, hT, hO, h0⟩
    refine C_has hT ?_
    clear hT
    unfold cmp_Or_int_j1 at h0
    refine C_sq ?_
    refine C_rg ttOk 2 ?_
    refine R_al ?_
    refine E_tn [(2, (eInt .i64 zero3))] ?_
    refine C_rt ?_
    refine E_hk [(2, (eInt .i64 zero3))] ?_
    obtain rfl := Option.some.inj h0
    exact E_done (Q_ret (x := (eInt .i64 zero3)) (by kernel_rfl) (SubV.refl _) ⟨rfl, hO.out⟩)
  refine C_sq ?_
  refine C_rg ttOk 3 ?_
  refine R_al ?_
  refine E_tn [(3, (eInt .i64 (0 : Int))), (6, (eL (eInt .i64) vals0)), (7, (eInt .i64 ((List.length vals0 : Nat) : Int))), (8, (eInt .i64 (0 : Int)))] ?_
  refine C_bk 0 ?_
  refine C_hk [(3, (eInt .i64 (0 : Int))), (6, (eL (eInt .i64) vals0)), (7, (eInt .i64 ((List.length vals0 : Nat) : Int))), (8, (eInt .i64 (0 : Int)))] ?_
  refine C_cut (fun T H => ∃ zero3 : Int, ∃ t6 : (List Int), ∃ t7 : Int, ∃ t8 : Int, Has T [(3, (eInt .i64 zero3)), (6, (eL (eInt .i64) t6)), (7, (eInt .i64 t7)), (8, (eInt .i64 t8))] ∧ Owns ⟨H0, [], []⟩ H [] ∧ cmp_Or_int_h2 zero3 t6 t7 t8 = some r) ?_ ⟨(0 : Int), vals0, ((List.length vals0 : Nat) : Int), (0 : Int), .eq (by kernel_rfl), hO, h0⟩
  clear hO h0
  rintro T H ⟨zero3, t6, t7, t8, hT, hO, h0⟩
  refine C_has hT ?_
  clear hT
  unfold cmp_Or_int_h2 at h0
  obtain ⟨rr0, hl0, h0⟩ := bindE h0
  refine C_loopS (by kernel_rfl) (fun (s : Int) T H => Has T [(3, (eInt .i64 zero3)), (6, (eL (eInt .i64) t6)), (7, (eInt .i64 t7)), (8, (eInt .i64 s))] ∧ Owns ⟨H0, [], []⟩ H []) hl0 ⟨.eq (by kernel_rfl), hO⟩ ?_
  clear hO
  rintro k0 s out1 T H ⟨hT, hO⟩ h1 ho0
  obtain ⟨t8, rfl⟩ : ∃ x, x = s := ⟨_, rfl⟩
  replace h1 : cmp_Or_int_l2 zero3 t6 t7 t8 = some out1 := h1
  refine C_has (l := [(3, (eInt .i64 zero3)), (6, (eL (eInt .i64) t6)), (7, (eInt .i64 t7)), (8, (eInt .i64 t8))]) hT ?_
  clear hT
  unfold cmp_Or_int_l2 at h1
  refine C_sq ?_
  refine C_rg ttOk 1 ?_
  refine R_al ?_
  refine E_tn [(3, (eInt .i64 zero3)), (6, (eL (eInt .i64) t6)), (7, (eInt .i64 t7)), (8, (eInt .i64 t8)), (9, (eBool (decide (t8 < t7))))] ?_
  refine C_sq ?_
  refine C_cn (decide (t8 < t7)) (fun hc1 => ?_) (fun hc1 => ?_)
  · replace h1 := condT hc1 h1
    refine C_sk ?_
    refine E_tn [(3, (eInt .i64 zero3)), (6, (eL (eInt .i64) t6)), (7, (eInt .i64 t7)), (8, (eInt .i64 t8))] ?_
    refine C_sq ?_
    refine C_bk 1 ?_
    refine C_sq ?_
    refine C_rg ttOk 3 ?_
    obtain ⟨c2, h1⟩ := asrtE h1
    refine R_all (Ds := [0 ≤ t8 ∧ t8 < ((List.length t6 : Nat) : Int)]) (by kernel_rfl) ⟨c2, trivial⟩ ?_
    refine E_tn [(3, (eInt .i64 zero3)), (5, (eInt .i64 (List.getD t6 (Int.toNat t8) default))), (6, (eL (eInt .i64) t6)), (7, (eInt .i64 t7)), (8, (eInt .i64 t8))] ?_
    refine C_sq ?_
    refine C_rg ttOk 3 ?_
    refine R_al ?_
    refine E_tn [(3, (eInt .i64 zero3)), (5, (eInt .i64 (List.getD t6 (Int.toNat t8) default))), (6, (eL (eInt .i64) t6)), (7, (eInt .i64 t7)), (8, (eInt .i64 t8)), (14, (eBool (!decide ((List.getD t6 (Int.toNat t8) default) = zero3))))] ?_
    refine C_cn (!decide ((List.getD t6 (Int.toNat t8) default) = zero3)) (fun hc3 => ?_) (fun hc3 => ?_)
    · replace h1 := condT hc3 h1
      refine C_sq ?_
      refine C_rg ttOk 2 ?_
      refine R_al ?_
      refine E_tn [(2, (eInt .i64 (List.getD t6 (Int.toNat t8) default)))] ?_
      refine C_rt ?_
      refine E_hk [(2, (eInt .i64 (List.getD t6 (Int.toNat t8) default)))] ?_
      obtain rfl := Option.some.inj h1
      obtain rfl : _ = rr0 := ho0
      replace h0 : some (List.getD t6 (Int.toNat t8) default) = some r := h0
      obtain rfl := Option.some.inj h0
      exact E_done (blockA_ret (thenA_ret (thenA_ret (blockA_ret (thenA_ret (Q_ret (x := (eInt .i64 (List.getD t6 (Int.toNat t8) default))) (by kernel_rfl) (SubV.refl _) ⟨rfl, hO.out⟩))))))
    replace h1 := condF hc3 h1
    refine C_sk ?_
    refine E_hk [(3, (eInt .i64 zero3)), (6, (eL (eInt .i64) t6)), (7, (eInt .i64 t7)), (8, (eInt .i64 t8))] ?_
    refine E_done (blockA_normal (thenA_normal (?_)))
    refine C_rg ttOk 2 ?_
    refine R_al ?_
    refine E_hk [(3, (eInt .i64 zero3)), (6, (eL (eInt .i64) t6)), (7, (eInt .i64 t7)), (8, (eInt .i64 (IntKind.i64.wrap (t8 + (1 : Int)))))] ?_
    exact E_done (thenA_normal (⟨rfl, IntKind.i64.wrap (t8 + (1 : Int)), (Option.some.inj h1).symm, .eq (by kernel_rfl), hO⟩))
  replace h1 := condF hc1 h1
  refine C_ex 0 ?_
  refine E_hk [(3, (eInt .i64 zero3))] ?_
  obtain rfl := Option.some.inj h1
  obtain rfl : _ = rr0 := ho0
  replace h0 : cmp_Or_int_j1 zero3 = some r := h0
  exact E_done (thenA_exit (thenA_exit (blockA_hit (thenA_normal (⟨rfl, zero3, .eq (by kernel_rfl), hO, h0⟩)))))

theorem w_edge_Norm_3 (x0 : api_Edge) (y1 : api_Edge) (r : Int) (h0 : s_edge_Norm_3 x0 y1 = some r) : Fine Try.prog 59 [(e_api_Edge x0), (e_api_Edge y1)] (eInt .i64 r) := by
  intro H0
  refine F_walk Try.func59 (by kernel_rfl) (by kernel_rfl) (by kernel_rfl) ?_
  have hO := Owns.start H0
  unfold s_edge_Norm_3 at h0
  refine C_sq ?_
  refine C_rg ttOk 3 ?_
  refine R_boxF 3 (e_api_Edge x0) (by kernel_rfl) (by kernel_rfl) ?_
  refine R_boxF 3 (e_api_Edge y1) (by kernel_rfl) (by kernel_rfl) ?_
  refine R_al ?_
  refine E_tn [(2, (.rp (e_api_Edge x0))), (3, (.rp (e_api_Edge y1)))] ?_
  refine C_sq ?_
  refine A_cl (C_draw (pl := plOf [6, 8, 11, 13]) ttOk (by kernel_rfl) (n := 13) (by kernel_rfl) (by kernel_rfl) (by kernel_rfl) ?_)
  refine D_pu 4 ?_
  obtain ⟨x1, hx2, h0⟩ := bindE h0
  refine D_callO 61 [(eL e_api_Value x0.Row), (eL e_api_Value y1.Row)] (eInt .i64 x1) (by kernel_rfl) (by kernel_rfl) (w_row_Compare x0.Row y1.Row _ hx2) hO ?_
  intro H hO
  refine D_pu 9 ?_
  obtain ⟨x4, hx5, h0⟩ := bindE h0
  refine D_callO 62 [(eInt .i64 x0.At), (eInt .i64 y1.At)] (eInt .i64 x4) (by kernel_rfl) (by kernel_rfl) (w_cmp_Compare_int x0.At y1.At _ hx5) hO ?_
  intro H hO
  refine D_bsl (xs := [(eInt .i64 x1), (eInt .i64 x4)]) (k := 1) (by kernel_rfl) (by kernel_rfl) ?_
  obtain ⟨x7, hx8, h0⟩ := bindE h0
  refine D_callO 60 [(frozenOf [(eInt .i64 x1), (eInt .i64 x4)])] (eInt .i64 x7) (by kernel_rfl) (by kernel_rfl) (Fine.sub (w_cmp_Or_int ([x1, x4]) _ hx8) ⟨subLit (l := [x1, x4]), trivial⟩) hO ?_
  intro H hO
  refine D_al ?_
  refine E_tn [(4, (eInt .i64 x7))] ?_
  refine C_rt ?_
  refine E_hk [(4, (eInt .i64 x7))] ?_
  obtain rfl := Option.some.inj h0
  exact E_done (Q_ret (x := (eInt .i64 x7)) (by kernel_rfl) (SubV.refl _) ⟨rfl, hO.out⟩)

theorem w_edge_put (lo0p : Nat) (l0 : (List api_Edge)) (r1 : (List api_Value)) (f2 : (List api_Jump)) (r : (List api_Edge)) (h0 : s_edge_put l0 r1 f2 = some r) : FineA Try.prog 78 lo0p 3 (List.map e_api_Edge l0) [(.msl 3 lo0p 0 (List.length l0)), (eL e_api_Value r1), (eL e_api_Jump f2)] (fun lo => .msl 3 lo 0 (List.length r)) (List.map e_api_Edge r) := by
  intro H0 hl0
  refine F_walk Try.func78 (by kernel_rfl) (by kernel_rfl) (by kernel_rfl) ?_
  have hO := Owns.start1 hl0
  clear hl0
  unfold s_edge_put at h0
  refine C_sq ?_
  refine C_rg ttOk 1 ?_
  refine R_al ?_
  refine E_tn [(0, (.msl 3 lo0p 0 (List.length l0))), (1, (eL e_api_Value r1)), (2, (eL e_api_Jump f2))] ?_
  refine C_seqJ (by kernel_rfl) (fun T H => ∃ l0 : List api_Edge, ∃ lo1 : Nat, Has T [(0, (.msl 3 lo1 0 (List.length l0)))] ∧ Owns ⟨H0, [lo0p], []⟩ H [(lo1, 3, List.map e_api_Edge l0)] ∧ edge_put_j1 l0 = some r) ?_ ?_
  · clear hO h0
    rintro T H ⟨l0, lo1, hT, hO, h0⟩
    refine C_has hT ?_
    clear hT
    unfold edge_put_j1 at h0
    refine C_sq ?_
    refine C_rg ttOk 2 ?_
    refine R_al ?_
    refine E_tn [(6, (.msl 3 lo1 0 (List.length l0)))] ?_
    refine C_rt ?_
    refine E_hk [(6, (.msl 3 lo1 0 (List.length l0)))] ?_
    obtain rfl := Option.some.inj h0
    exact E_done (Q_ret (x := (.msl 3 lo1 0 (List.length l0))) (by kernel_rfl) (SubV.refl _) ⟨lo1, rfl, hO⟩)
  refine C_sq ?_
  refine C_rg ttOk 3 ?_
  refine R_al ?_
  refine E_tn [(0, (.msl 3 lo0p 0 (List.length l0))), (1, (eL e_api_Value r1)), (9, (eL e_api_Jump f2)), (10, (eInt .i64 ((List.length f2 : Nat) : Int))), (11, (eInt .i64 (0 : Int)))] ?_
  refine C_bk 0 ?_
  refine C_hk [(0, (.msl 3 lo0p 0 (List.length l0))), (1, (eL e_api_Value r1)), (9, (eL e_api_Jump f2)), (10, (eInt .i64 ((List.length f2 : Nat) : Int))), (11, (eInt .i64 (0 : Int)))] ?_
  refine C_cut (fun T H => ∃ l0 : List api_Edge, ∃ t9 : (List api_Jump), ∃ t10 : Int, ∃ t11 : Int, ∃ lo3 : Nat, Has T [(0, (.msl 3 lo3 0 (List.length l0))), (1, (eL e_api_Value r1)), (9, (eL e_api_Jump t9)), (10, (eInt .i64 t10)), (11, (eInt .i64 t11))] ∧ Owns ⟨H0, [lo0p], []⟩ H [(lo3, 3, List.map e_api_Edge l0)] ∧ edge_put_h2 l0 r1 t9 t10 t11 = some r) ?_ ⟨l0, f2, ((List.length f2 : Nat) : Int), (0 : Int), lo0p, .eq (by kernel_rfl), hO, h0⟩
  clear hO h0
  rintro T H ⟨l0, t9, t10, t11, lo3, hT, hO, h0⟩
  refine C_has hT ?_
  clear hT
  unfold edge_put_h2 at h0
  obtain ⟨rr0, hl0, h0⟩ := bindE h0
  refine C_loopS (by kernel_rfl) (fun (s : List api_Edge × Int) T H => ∃ lo3 : Nat, Has T [(0, (.msl 3 lo3 0 (List.length s.1))), (1, (eL e_api_Value r1)), (9, (eL e_api_Jump t9)), (10, (eInt .i64 t10)), (11, (eInt .i64 s.2))] ∧ Owns ⟨H0, [lo0p], []⟩ H [(lo3, 3, List.map e_api_Edge s.1)]) hl0 ⟨lo3, .eq (by kernel_rfl), hO⟩ ?_
  clear hO
  rintro k0 s out1 T H ⟨lo3, hT, hO⟩ h1 ho0
  obtain ⟨l0, t11⟩ := s
  replace h1 : edge_put_l2 r1 t9 t10 l0 t11 = some out1 := h1
  refine C_has (l := [(0, (.msl 3 lo3 0 (List.length l0))), (1, (eL e_api_Value r1)), (9, (eL e_api_Jump t9)), (10, (eInt .i64 t10)), (11, (eInt .i64 t11))]) hT ?_
  clear hT
  unfold edge_put_l2 at h1
  refine C_sq ?_
  refine C_rg ttOk 1 ?_
  refine R_al ?_
  refine E_tn [(0, (.msl 3 lo3 0 (List.length l0))), (1, (eL e_api_Value r1)), (9, (eL e_api_Jump t9)), (10, (eInt .i64 t10)), (11, (eInt .i64 t11)), (12, (eBool (decide (t11 < t10))))] ?_
  refine C_sq ?_
  refine C_cn (decide (t11 < t10)) (fun hc4 => ?_) (fun hc4 => ?_)
  · replace h1 := condT hc4 h1
    refine C_sk ?_
    refine E_tn [(0, (.msl 3 lo3 0 (List.length l0))), (1, (eL e_api_Value r1)), (9, (eL e_api_Jump t9)), (10, (eInt .i64 t10)), (11, (eInt .i64 t11))] ?_
    refine C_sq ?_
    refine C_bk 1 ?_
    refine C_sq ?_
    refine C_rg ttOk 4 ?_
    obtain ⟨c5, h1⟩ := asrtE h1
    refine R_pure 2 (by kernel_rfl) (Ds := [0 ≤ t11 ∧ t11 < ((List.length t9 : Nat) : Int)]) (by kernel_rfl) ⟨c5, trivial⟩ ?_
    refine R_allocO 2 (e_api_Jump (api_Jump.mk 0 0)) (by kernel_rfl) (by kernel_rfl) hO ?_
    intro lo6 H hO
    refine R_storeOL 1 lo6 2 0 (e_api_Jump (api_Jump.mk 0 0)) (e_api_Jump (List.getD t9 (Int.toNat t11) default)) [(e_api_Jump (api_Jump.mk 0 0))] [(lo3, 3, List.map e_api_Edge l0), (lo6, 2, [(e_api_Jump (List.getD t9 (Int.toNat t11) default))])] (by kernel_rfl) (by kernel_rfl) (by kernel_rfl) hO (by kernel_rfl) rfl (by kernel_rfl) ?_
    intro H hO
    refine R_en ?_
    refine E_tn [(0, (.msl 3 lo3 0 (List.length l0))), (1, (eL e_api_Value r1)), (8, (.lp lo6 0 0)), (9, (eL e_api_Jump t9)), (10, (eInt .i64 t10)), (11, (eInt .i64 t11))] ?_
    refine C_freezeC 2 1 8 2 lo6 (e_api_Jump (List.getD t9 (Int.toNat t11) default)) [(lo3, 3, List.map e_api_Edge l0)] hO (by kernel_rfl) (by kernel_rfl) (by kernel_rfl) ?_
    intro H hO
    refine A_cl (C_draw (pl := plOf [19, 21]) ttOk (by kernel_rfl) (n := 11) (by kernel_rfl) (by kernel_rfl) (by kernel_rfl) ?_)
    refine D_pu 2 ?_
    obtain ⟨x7, hx8, h1⟩ := bindE h1
    refine D_callO 105 [(eL e_api_Value r1)] (eL e_api_Value x7) (by kernel_rfl) (by kernel_rfl) (w_row_Copy r1 _ hx8) hO ?_
    intro H hO
    refine D_pu 8 ?_
    refine D_bsl (xs := [(e_api_Edge (api_Edge.mk x7 ((List.getD t9 (Int.toNat t11) default).At) ((List.getD t9 (Int.toNat t11) default).Net)))]) (k := 3) (by kernel_rfl) (by kernel_rfl) ?_
    obtain ⟨c11, h1⟩ := asrtE h1
    refine D_appOL (e := e_api_Edge) l0 ([api_Edge.mk x7 ((List.getD t9 (Int.toNat t11) default).At) ((List.getD t9 (Int.toNat t11) default).Net)]) 0 lo3 3 40 (frozenOf [(e_api_Edge (api_Edge.mk x7 ((List.getD t9 (Int.toNat t11) default).At) ((List.getD t9 (Int.toNat t11) default).Net)))]) (fun lo10 => [(lo10, 3, List.map e_api_Edge (l0 ++ ([api_Edge.mk x7 ((List.getD t9 (Int.toNat t11) default).At) ((List.getD t9 (Int.toNat t11) default).Net)])))]) (by kernel_rfl) (by kernel_rfl) hO (by kernel_rfl) (by kernel_rfl) c11 (fun _ => by kernel_rfl) ?_
    intro lo10 H hO
    refine D_al ?_
    refine E_hk [(0, (.msl 3 lo10 0 (List.length (l0 ++ ([api_Edge.mk x7 ((List.getD t9 (Int.toNat t11) default).At) ((List.getD t9 (Int.toNat t11) default).Net)]))))), (1, (eL e_api_Value r1)), (9, (eL e_api_Jump t9)), (10, (eInt .i64 t10)), (11, (eInt .i64 t11))] ?_
    refine E_done (blockA_normal (thenA_normal (?_)))
    refine C_rg ttOk 2 ?_
    refine R_al ?_
    refine E_hk [(0, (.msl 3 lo10 0 (List.length (l0 ++ ([api_Edge.mk x7 ((List.getD t9 (Int.toNat t11) default).At) ((List.getD t9 (Int.toNat t11) default).Net)]))))), (1, (eL e_api_Value r1)), (9, (eL e_api_Jump t9)), (10, (eInt .i64 t10)), (11, (eInt .i64 (IntKind.i64.wrap (t11 + (1 : Int)))))] ?_
    exact E_done (thenA_normal (⟨rfl, (l0 ++ ([api_Edge.mk x7 ((List.getD t9 (Int.toNat t11) default).At) ((List.getD t9 (Int.toNat t11) default).Net)]), IntKind.i64.wrap (t11 + (1 : Int))), (Option.some.inj h1).symm, lo10, .eq (by kernel_rfl), hO⟩))
  replace h1 := condF hc4 h1
  refine C_ex 0 ?_
  refine E_hk [(0, (.msl 3 lo3 0 (List.length l0)))] ?_
  obtain rfl := Option.some.inj h1
  obtain rfl : _ = rr0 := ho0
  replace h0 : edge_put_j1 l0 = some r := h0
  exact E_done (thenA_exit (thenA_exit (blockA_hit (thenA_normal (⟨rfl, l0, lo3, .eq (by kernel_rfl), hO, h0⟩)))))

end Go.Abs
