/- What the laws of layer 9 ask whatever is asked: by reckoning. -/
import Derived.Test.YtgeajlnkbfeidaaPStep3
namespace Go.Abs
open Go

theorem cmp_eq (a b : api_Jump) : s_step_Norm_3 a b = some (if a.At < b.At then -1 else if b.At < a.At then 1 else 0) := by
  unfold s_step_Norm_3 s_cmp_Compare_int s_cmp_isNaN_int
  by_cases h1 : a.At < b.At
  · simp [h1]
  · by_cases h2 : b.At < a.At <;> simp [h1, h2]

theorem w1 : IntKind.i64.wrap (0 + 1) = 1 := by rw [wrap_in] <;> omega
theorem w2 : IntKind.i64.wrap (1 + 1) = 2 := by rw [wrap_in] <;> omega
theorem w3 : IntKind.i64.wrap (1 - 1) = 0 := by rw [wrap_in] <;> omega

theorem v0 : IntKind.i64.wrap 0 = 0 := by rw [wrap_in] <;> omega
theorem v1 : IntKind.i64.wrap 1 = 1 := by rw [wrap_in] <;> omega
theorem v2 : IntKind.i64.wrap 2 = 2 := by rw [wrap_in] <;> omega
theorem v3 : IntKind.i64.wrap (-1) = -1 := by rw [wrap_in] <;> omega

theorem live_ins : s_slices_insertionSortCmpFunc_api_Jump [⟨5, -1⟩, ⟨2, 1⟩] 0 2 (fun a b => s_step_Norm_3 a b) = some [⟨2, 1⟩, ⟨5, -1⟩] := by
  have inner : lp (fun s : List api_Jump × Int => slices_insertionSortCmpFunc_api_Jump_l3 (fun a b => s_step_Norm_3 a b) 0 2 1 s.1 s.2) ([⟨5, -1⟩, ⟨2, 1⟩], 1) = some [⟨2, 1⟩, ⟨5, -1⟩] := by
    rw [lp_next (s' := ([⟨2, 1⟩, ⟨5, -1⟩], 0))]
    · exact lp_last (by simp [slices_insertionSortCmpFunc_api_Jump_l3, asrt, gcall])
    · simp [slices_insertionSortCmpFunc_api_Jump_l3, asrt, gcall, cmp_eq, v0, v1, v2]
  unfold s_slices_insertionSortCmpFunc_api_Jump slices_insertionSortCmpFunc_api_Jump_h1
  rw [w1, lp_next (s' := ([⟨2, 1⟩, ⟨5, -1⟩], 2)), lp_last (r := [⟨2, 1⟩, ⟨5, -1⟩])]
  · rfl
  · simp [slices_insertionSortCmpFunc_api_Jump_l1]
  · simp only [slices_insertionSortCmpFunc_api_Jump_l1, slices_insertionSortCmpFunc_api_Jump_h3]
    rw [inner]
    simp [slices_insertionSortCmpFunc_api_Jump_j2, v2]

theorem live_sort : s_slices_SortStableFunc_api_Jump_api_Jump [⟨5, -1⟩, ⟨2, 1⟩] (fun a b => s_step_Norm_3 a b) = some [⟨2, 1⟩, ⟨5, -1⟩] := by
  unfold s_slices_SortStableFunc_api_Jump_api_Jump s_slices_stableCmpFunc_api_Jump slices_stableCmpFunc_api_Jump_h6
  rw [lp_last (r := ([⟨5, -1⟩, ⟨2, 1⟩], 0))]
  · simp only [Option.bind_some, slices_stableCmpFunc_api_Jump_j1]
    rw [show (((List.length [(⟨5, -1⟩ : api_Jump), ⟨2, 1⟩] : Nat) : Int)) = 2 from rfl, live_ins]
    simp only [Option.bind_some, slices_stableCmpFunc_api_Jump_h2]
    rw [lp_last (r := [⟨2, 1⟩, ⟨5, -1⟩])]
    · rfl
    · simp [slices_stableCmpFunc_api_Jump_l2]
  · simp [slices_stableCmpFunc_api_Jump_l6]

theorem contains_none {f : api_Jump → Option Bool} : ∀ {l : List api_Jump}, l.length < 4611686018427387904 → (∀ j ∈ l, f j = some false) → s_slices_ContainsFunc_api_Jump_api_Jump l f = some false := by
  intro l hl hf
  have fold : ∀ (k : List api_Jump), (∀ j ∈ k, f j = some false) → foldE (fun (_ : Unit) (j : api_Jump) => some (.inl () : Unit ⊕ (Unit ⊕ Int))) (fun _ => .inl ()) () k = some (.inl ()) := by
    intro k
    induction k with
    | nil => intro _; rfl
    | cons j r ih => intro h; exact ih (fun x hx => h x (List.mem_cons_of_mem _ hx))
  have key := lp_list0 (l := l) (body := fun s : Int => slices_IndexFunc_api_Jump_api_Jump_l2 f l (l.length : Nat) s) (fun (_ : Unit) i => i) _ _
    (fun i a s ha => by
      obtain ⟨d1, d2, d3, d4⟩ := idx ha hl
      constructor
      · intro s' hs
        show slices_IndexFunc_api_Jump_api_Jump_l2 f l (l.length : Nat) i = _
        simp only [slices_IndexFunc_api_Jump_api_Jump_l2, d1, cond_true, asrt_pos d2, d3, d4, hf a (List.mem_of_getElem? ha), Option.bind_some, cond_false]
      · intro x hs; simp at hs)
    (fun s => by show slices_IndexFunc_api_Jump_api_Jump_l2 f l (l.length : Nat) (l.length : Nat) = _; simp only [slices_IndexFunc_api_Jump_api_Jump_l2, idx_end, cond_false]) (fold l hf)
  unfold s_slices_ContainsFunc_api_Jump_api_Jump s_slices_IndexFunc_api_Jump_api_Jump slices_IndexFunc_api_Jump_api_Jump_h2
  rw [key]
  simp [slices_IndexFunc_api_Jump_api_Jump_j1]

theorem live_norm : s_step_Norm [⟨5, -1⟩, ⟨2, 1⟩] = some ([⟨2, 1⟩, ⟨5, -1⟩], 0) := by
  unfold s_step_Norm
  rw [contains_none (by simp) (by
    intro j hj
    simp at hj
    rcases hj with rfl | rfl <;> simp [s_step_Norm_1, fair_eq, fairB])]
  simp only [Option.bind_some, cond_false]
  rw [contains_none (by simp) (by
    intro j hj
    simp at hj
    rcases hj with rfl | rfl <;> simp [s_step_Norm_2])]
  simp only [Option.bind_some, cond_false]
  have hc : s_slices_Clone_api_Jump_api_Jump [⟨5, -1⟩, ⟨2, 1⟩] = some [⟨5, -1⟩, ⟨2, 1⟩] := by
    unfold s_slices_Clone_api_Jump_api_Jump
    exact asrt_pos (by simp)
  rw [hc]
  simp only [Option.bind_some]
  rw [live_sort]
  simp only [Option.bind_some, step_Norm_h2]
  have g1 : step_Norm_l2 [⟨2, 1⟩, ⟨5, -1⟩] [] 0 = some (.inl ([⟨2, 1⟩, ⟨5, -1⟩], [⟨2, 1⟩], 1)) := by
    have : lp (fun s : List api_Jump × List api_Jump × Int × api_Jump => step_Norm_l4 s.1 s.2.1 s.2.2.1 s.2.2.2) ([⟨2, 1⟩, ⟨5, -1⟩], [], 0, ⟨2, 0⟩) = some ([⟨2, 1⟩, ⟨5, -1⟩], [], 1, ⟨2, 1⟩) := by
      rw [lp_next (s' := ([⟨2, 1⟩, ⟨5, -1⟩], [], 1, ⟨2, 1⟩))]
      · exact lp_last (by simp [step_Norm_l4, asrt])
      · have : IntKind.i64.wrap (0 + 1) = 1 := w1
        simp [step_Norm_l4, asrt, v1]
    simp only [step_Norm_l2, step_Norm_h4]
    simp [asrt, this, step_Norm_j3]
  have g2 : step_Norm_l2 [⟨2, 1⟩, ⟨5, -1⟩] [⟨2, 1⟩] 1 = some (.inl ([⟨2, 1⟩, ⟨5, -1⟩], [⟨2, 1⟩, ⟨5, -1⟩], 2)) := by
    have : lp (fun s : List api_Jump × List api_Jump × Int × api_Jump => step_Norm_l4 s.1 s.2.1 s.2.2.1 s.2.2.2) ([⟨2, 1⟩, ⟨5, -1⟩], [⟨2, 1⟩], 1, ⟨5, 0⟩) = some ([⟨2, 1⟩, ⟨5, -1⟩], [⟨2, 1⟩], 2, ⟨5, -1⟩) := by
      rw [lp_next (s' := ([⟨2, 1⟩, ⟨5, -1⟩], [⟨2, 1⟩], 2, ⟨5, -1⟩))]
      · exact lp_last (by simp [step_Norm_l4, asrt])
      · have h1 : IntKind.i64.wrap (1 + 1) = 2 := w2
        have h2 : IntKind.i64.wrap (0 + -1) = -1 := by rw [wrap_in] <;> omega
        simp [step_Norm_l4, asrt, v2, v3]
    simp only [step_Norm_l2, step_Norm_h4]
    simp [asrt, this, step_Norm_j3]
  rw [lp_next (s' := ([⟨2, 1⟩, ⟨5, -1⟩], [⟨2, 1⟩], 1)) g1, lp_next (s' := ([⟨2, 1⟩, ⟨5, -1⟩], [⟨2, 1⟩, ⟨5, -1⟩], 2)) g2, lp_last (r := [⟨2, 1⟩, ⟨5, -1⟩])]
  · have : mayB [⟨2, 1⟩, ⟨5, -1⟩] = true := by decide
    simp [step_Norm_j1, told_eq, this]
  · simp [step_Norm_l2]

end Go.Abs
